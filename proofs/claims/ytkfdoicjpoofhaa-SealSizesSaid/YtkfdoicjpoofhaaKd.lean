/-
  The proof's texts, joined, without what the statements do not reach: part 4 of 7. No condition.
-/
import Derived.WalkKit
import Derived.KernelRfl
import Derived.Lib.ConvBytes
import Derived.WalkSpells
import Derived.WalkLawsBesides
import Derived.ProofKit
import Derived.ChangeMaps5
import Derived.ChangeSlices
import Derived.Deep.Strs
import Derived.DataElems
import Derived.OpenShut
import Derived.Test.YtkfdoicjpoofhaaProg
import Derived.Test.YtkfdoicjpoofhaaKc
section
namespace Go.Proofs.Ytkfdoicjpoofhaa
open Go Go.RowKit D
set_option linter.unusedVariables false
set_option linter.unusedSimpArgs false
set_option maxRecDepth 100000
set_option maxHeartbeats 2000000
section
variable {w0 : World} {H : Hp} {H0 : Hp}
theorem ones_two {a b : Value} (h1 : a.oneCell' = true) (h2 : b.oneCell' = true) : ∀ v ∈ [a, b], v.oneCell' = true := by
  intro v hv
  simp only [List.mem_cons, List.not_mem_nil, or_false] at hv
  rcases hv with rfl | rfl <;> assumption
theorem streamR_con {vk vs : Value} {key nonce d : List UInt8} (hVk : Vec H 9 1 vk 11 (strs (keysS (keysL key) 11))) (hVs : Vec H 5 1 vs 256 (nums .u8 (ofB sbox))) (hk : key.length = 16) (hn : nonce.length = 12) (hm : d.length ≤ 1048576) : Con Try.prog w0 40 #[.agg #[vk, vs], S nonce, S d] H (fun v H' => v = S (strmB key nonce d) ∧ H' = H) := by
  have hS0 : Sep H [] H := Sep.refl
  refine Con.intro Try.func40 rfl rfl ?_
  refine AW.seq ?_
  refine AW.region ?_
  refine OpsW.m rfl (s_box (v := .agg _) hS0 rfl rfl) ?_
  rintro _ H1 ⟨b3, rfl, hS1⟩
  clear hS0
  refine OpsW.q rfl (q_assign (v := S _) rfl) ?_
  refine OpsW.nil ?_
  refine SeqP.go ?_
  refine AW.seq ?_
  refine AW.region ?_
  refine OpsW.q rfl (q_assign (v := .slice _ _ _) rfl) ?_
  refine OpsW.nil ?_
  refine SeqP.go ?_
  refine AW.seq ?_
  refine AW.region ?_
  refine OpsW.q rfl (q_assign (v := S _) rfl) ?_
  refine OpsW.nil ?_
  refine SeqP.go ?_
  refine AW.seq ?_
  refine AW.seq ?_
  refine AW.region ?_
  refine OpsW.q rfl (q_assign (v := .int _ _) rfl) ?_
  refine OpsW.nil ?_
  refine SeqP.go ?_
  refine AW.block ?_
  replace hS1 := hS1.nil (el := 5) (sz := 1)
  refine AW.loop (fun m_ e_ H_ => ∃ (i : Nat) (vo : Value) (e0 : Env), m_ = d.length - i ∧ (i ≤ d.length) ∧ e_ = upds e0 [(1, S nonce), (2, S d), (3, .pointer (some ⟨b3, 0, none⟩)), (7, vo), (9, .int .i64 (i : Int)), (8, S (curS key nonce i))] ∧ Sep H [.vec vo 5 1 i (nums .u8 (ofB ((strmB key nonce d).take i))), .blk b3 ⟨[vk, vs], 2, 60⟩] H_) _ ⟨0, nilV, _, rfl, (by omega), Slots.eq ⟨(by rfl), (by rfl), (by rfl), (by rfl), (by rfl), (by rw [curS_zero']; rfl),  trivial⟩, (by rw [List.take_zero]; exact hS1)⟩ ?_
  rintro m_ _ Hl0 ⟨i, vo, e0, rfl, hf, rfl, hSl0⟩
  try clear hS1
  have hbk := blkA_length key (ctrB nonce (2 + i / 16))
  refine AW.seq ?_
  refine AW.seq ?_
  refine AW.region ?_
  refine OpsW.q rfl (q_move (v := .int _ _) rfl) ?_
  refine OpsW.q rfl (q_move (v := S _) rfl) ?_
  refine OpsW.q rfl (q_lenS Try.underlying9 rfl) ?_
  refine OpsW.q rfl (q_lss rfl rfl) ?_
  refine OpsW.nil ?_
  refine SeqP.go ?_
  refine AW.cond2 rfl (fun h0 => ?_) (fun h0 => ?_)
  ·
    try simp only [decide_eq_true_eq, decide_eq_false_iff_not, Bool.or_eq_true, Bool.and_eq_true, Bool.or_eq_false_iff, Bool.and_eq_false_imp, Bool.not_eq_true', Bool.not_eq_false', ne_eq, Decidable.not_not, Int.not_lt, Int.not_le, Bool.not_eq_true, Bool.not_eq_false] at h0
    refine AW.exit ?_
    refine SeqP.exit ?_
    refine LoopP.exit ?_
    obtain rfl : i = d.length := by omega
    refine BlockP.here ?_
    refine SeqP.go ?_
    refine AW.seq ?_
    refine AW.region ?_
    refine OpsW.q rfl (q_move (v := vo) rfl) ?_
    refine OpsW.q rfl (q_stringB (hSl0.vec at0) Try.underlying33 Try.underlying5 Try.underlying9 rfl) ?_
    refine OpsW.q rfl (q_assign (v := S _) rfl) ?_
    refine OpsW.nil ?_
    refine SeqP.go ?_
    refine AW.ret ?_
    refine RetP.mk1 (H' := H) (v1 := S _) rfl rfl  hSl0.le ?_
    exact ⟨by rw [List.take_of_length_le (by rw [strmB_length']; exact Nat.le_refl _)], rfl⟩
  try simp only [decide_eq_true_eq, decide_eq_false_iff_not, Bool.or_eq_true, Bool.and_eq_true, Bool.or_eq_false_iff, Bool.and_eq_false_imp, Bool.not_eq_true', Bool.not_eq_false', ne_eq, Decidable.not_not, Int.not_lt, Int.not_le, Bool.not_eq_true, Bool.not_eq_false] at h0
  refine AW.skip ?_
  refine SeqP.go ?_
  refine AW.seq ?_
  refine AW.block ?_
  refine AW.seq ?_
  refine AW.seq ?_
  refine AW.region ?_
  refine OpsW.q rfl (q_move (v := .int _ _) rfl) ?_
  refine OpsW.q rfl (q_remI rfl rfl (by omega)) ?_
  refine OpsW.q rfl (q_eql rfl rfl) ?_
  refine OpsW.nil ?_
  refine SeqP.go ?_
  refine AW.cond rfl (fun h1 => ?_) (fun h1 => ?_)
  ·
    try simp only [decide_eq_true_eq, decide_eq_false_iff_not, Bool.or_eq_true, Bool.and_eq_true, Bool.or_eq_false_iff, Bool.and_eq_false_imp, Bool.not_eq_true', Bool.not_eq_false', ne_eq, Decidable.not_not, Int.not_lt, Int.not_le, Bool.not_eq_true, Bool.not_eq_false] at h1
    refine AW.drawK [] 6 rfl (by kernel_rfl) ?_
    refine SeqK.q rfl (q_loadA0 (n := 2) (by kernel_rfl) rfl (hSl0.blk at1) (by simp; done)) ?_
    refine SeqK.q rfl (q_move (v := S _) rfl) ?_
    refine SeqK.q rfl (q_move (v := .int _ _) rfl) ?_
    refine SeqK.q rfl (q_quoI rfl rfl (by omega)) ?_
    refine SeqK.q rfl (q_addI rfl rfl (by omega)) ?_
    rw [show (2 : Int) + (i : Int) / 16 = ((2 + i / 16 : Nat) : Int) from by omega]
    refine SeqK.q rfl (o_call rfl Try.func66 rfl rfl (counterR_con hn)) ?_
    refine SeqK.done ?_
    refine OpsW.q rfl (o_call rfl Try.func62 rfl rfl (UnderR_con (hVk.le hSl0.le) (hVs.le hSl0.le) (keysL_length hk) (by rw [ctrB_length' hn]))) ?_
    rw [blkA_eq]
    refine OpsW.q rfl (q_assign (v := S _) rfl) ?_
    refine OpsW.nil ?_
    refine SeqP.go ?_
    refine AW.drawD 9 0 rfl (by kernel_rfl) (by kernel_rfl) ?_
    refine SeqD.a rfl (fun _ => q_move (v := vo) rfl) ?_
    refine SeqD.a rfl (fun _ => q_move (v := S _) rfl) ?_
    refine SeqD.a rfl (fun _ => q_move (v := .int _ _) rfl) ?_
    refine SeqD.a rfl (fun _ => q_indexS Try.underlying9 rfl rfl (by omega) (by omega)) ?_
    refine SeqD.a rfl (fun _ => q_move (v := S _) rfl) ?_
    refine SeqD.a rfl (fun _ => q_move (v := .int _ _) rfl) ?_
    refine SeqD.a rfl (fun _ => q_remI rfl rfl (by omega)) ?_
    refine SeqD.a rfl (fun _ => q_indexS Try.underlying9 rfl rfl (by omega) (by omega)) ?_
    refine SeqD.a rfl (fun _ => q_xorB rfl rfl) ?_
    refine SeqD.x rfl (s_buildSlice (z := .int .u8 0) (vs := nums .u8 (ofB [_])) hSl0 Try.underlying33 (by kernel_rfl) (by kernel_rfl) rfl (by rfl) (by rfl) (by decide) rfl (nums_one _ _) rfl) ?_
    rintro v35 H2 hS2
    clear hSl0
    refine ⟨trivial, ?_⟩
    refine SeqR2.done ?_
    refine OpsW.m rfl (s_append (sz := 1) (by_ := 1) (z := .int .u8 0) hS2 at1 Try.underlying33 (by kernel_rfl) (by kernel_rfl) (by kernel_rfl) rfl (by kernel_rfl) rfl rfl (src_vec (hS2.vec at0) (nums_one _ _)) (by unfold maxLen; omega) (by omega)) ?_
    rintro v36 H3 hS3
    clear hS2
    rw [← nums_append, ← ofB_app] at hS3
    replace hS3 := hS3.del del0
    refine OpsW.q rfl (q_assign (v := v36) rfl) ?_
    refine OpsW.nil ?_
    refine BlockP.go ?_
    refine SeqP.go ?_
    refine AW.region ?_
    refine OpsW.q rfl (q_move (v := .int _ _) rfl) ?_
    refine OpsW.q rfl (q_addI rfl rfl (by omega)) ?_
    refine OpsW.q rfl (q_assign (v := .int _ _) rfl) ?_
    refine OpsW.nil ?_
    exact LoopP.go _ (by omega) ⟨i + 1, v36, _, rfl, (by omega), Slots.eq ⟨(by rfl), (by rfl), (by rfl), (by rfl), (by rfl), (by rw [curS_succ']; rfl),  trivial⟩, (by rw [strm_next key nonce d (by omega)]; exact hS3)⟩
  try simp only [decide_eq_true_eq, decide_eq_false_iff_not, Bool.or_eq_true, Bool.and_eq_true, Bool.or_eq_false_iff, Bool.and_eq_false_imp, Bool.not_eq_true', Bool.not_eq_false', ne_eq, Decidable.not_not, Int.not_lt, Int.not_le, Bool.not_eq_true, Bool.not_eq_false] at h1
  rw [curS_same' key nonce (i := i) (by omega)]
  refine AW.skip ?_
  refine SeqP.go ?_
  refine AW.drawD 9 0 rfl (by kernel_rfl) (by kernel_rfl) ?_
  refine SeqD.a rfl (fun _ => q_move (v := vo) rfl) ?_
  refine SeqD.a rfl (fun _ => q_move (v := S _) rfl) ?_
  refine SeqD.a rfl (fun _ => q_move (v := .int _ _) rfl) ?_
  refine SeqD.a rfl (fun _ => q_indexS Try.underlying9 rfl rfl (by omega) (by omega)) ?_
  refine SeqD.a rfl (fun _ => q_move (v := S _) rfl) ?_
  refine SeqD.a rfl (fun _ => q_move (v := .int _ _) rfl) ?_
  refine SeqD.a rfl (fun _ => q_remI rfl rfl (by omega)) ?_
  refine SeqD.a rfl (fun _ => q_indexS Try.underlying9 rfl rfl (by omega) (by omega)) ?_
  refine SeqD.a rfl (fun _ => q_xorB rfl rfl) ?_
  refine SeqD.x rfl (s_buildSlice (z := .int .u8 0) (vs := nums .u8 (ofB [_])) hSl0 Try.underlying33 (by kernel_rfl) (by kernel_rfl) rfl (by rfl) (by rfl) (by decide) rfl (nums_one _ _) rfl) ?_
  rintro v35 H4 hS4
  clear hSl0
  refine ⟨trivial, ?_⟩
  refine SeqR2.done ?_
  refine OpsW.m rfl (s_append (sz := 1) (by_ := 1) (z := .int .u8 0) hS4 at1 Try.underlying33 (by kernel_rfl) (by kernel_rfl) (by kernel_rfl) rfl (by kernel_rfl) rfl rfl (src_vec (hS4.vec at0) (nums_one _ _)) (by unfold maxLen; omega) (by omega)) ?_
  rintro v36 H5 hS5
  clear hS4
  rw [← nums_append, ← ofB_app] at hS5
  replace hS5 := hS5.del del0
  refine OpsW.q rfl (q_assign (v := v36) rfl) ?_
  refine OpsW.nil ?_
  refine BlockP.go ?_
  refine SeqP.go ?_
  refine AW.region ?_
  refine OpsW.q rfl (q_move (v := .int _ _) rfl) ?_
  refine OpsW.q rfl (q_addI rfl rfl (by omega)) ?_
  refine OpsW.q rfl (q_assign (v := .int _ _) rfl) ?_
  refine OpsW.nil ?_
  exact LoopP.go _ (by omega) ⟨i + 1, v36, _, rfl, (by omega), Slots.eq ⟨(by rfl), (by rfl), (by rfl), (by rfl), (by rfl), (by rw [curS_succ']; rfl),  trivial⟩, (by rw [strm_next key nonce d (by omega)]; exact hS5)⟩
theorem tagR_con {vk vs : Value} {key nonce b s : List UInt8} (hVk : Vec H 9 1 vk 11 (strs (keysS (keysL key) 11))) (hVs : Vec H 5 1 vs 256 (nums .u8 (ofB sbox))) (hk : key.length = 16) (hn : nonce.length = 12) (hb : b.length ≤ 1048576) (hs : s.length ≤ 1048576) : Con Try.prog w0 39 #[.agg #[vk, vs], S nonce, S b, S s] H (fun v H' => v = S (gtag key nonce b s) ∧ H' = H) := by
  have hS0 : Sep H [] H := Sep.refl
  have lb := flB_length' b
  have ls := flB_length' s
  have mb := flB_mod' b
  have ms := flB_mod' s
  have l1 := longB_length b.length
  have l2 := longB_length s.length
  have hz : List.replicate (Int.toNat 16) (0 : UInt8) = zs 16 := (zs_eq 16).symm
  have lz := zs_length16
  have l4 : (flB b ++ flB s).length = (flB b).length + (flB s).length := List.length_append
  have l5 : (flB b ++ flB s ++ longB b.length).length = (flB b).length + (flB s).length + 8 := by rw [List.length_append, l4, l1]
  have l6 : (flB b ++ flB s ++ longB b.length ++ longB s.length).length = (flB b).length + (flB s).length + 16 := by rw [List.length_append, l5, l2]
  have l7 : (hashB (blkA key (zs 16)) (flB b ++ flB s ++ longB b.length ++ longB s.length)).length = 16 := hashB_length' _ _
  have l8 := blkA_length key (ctrB nonce 1)
  refine Con.intro Try.func39 rfl rfl ?_
  refine AW.seq ?_
  refine AW.region ?_
  refine OpsW.m rfl (s_box (v := .agg _) hS0 rfl rfl) ?_
  rintro _ H1 ⟨b4, rfl, hS1⟩
  clear hS0
  refine OpsW.q rfl (q_assign (v := S _) rfl) ?_
  refine OpsW.nil ?_
  refine SeqP.go ?_
  refine AW.seq ?_
  refine AW.drawD 1 1 rfl (by kernel_rfl) (by kernel_rfl) ?_
  refine SeqD.q rfl (q_loadA0 (n := 2) (by kernel_rfl) rfl (hS1.blk at0) (by rfl)) ?_
  refine SeqD.x rfl (s_makeSliceB (by_ := 1) hS1 Try.underlying33 (by kernel_rfl) (by kernel_rfl) (by kernel_rfl) rfl rfl (by omega) (by omega) (by omega) (by omega) (by unfold maxLen; omega)) ?_
  rintro v15 H2 hS2
  clear hS1
  refine ⟨⟨trivial, q_loadA0 (n := 2) (by kernel_rfl) rfl (hS2.blk at1) (by rfl)⟩, ?_⟩
  refine SeqR2.q rfl (q_stringB (hS2.vec at0) Try.underlying33 Try.underlying5 Try.underlying9 rfl) ?_
  refine SeqR2.done ?_
  refine OpsW.q rfl (o_call rfl Try.func62 rfl rfl (UnderR_con (hVk.le hS2.le) (hVs.le hS2.le) (keysL_length hk) (by rw [hz]; exact lz))) ?_
  rw [hz, blkA_eq]
  refine OpsW.q rfl (q_assign (v := S _) rfl) ?_
  refine OpsW.nil ?_
  refine SeqP.go ?_
  refine AW.seq ?_
  refine AW.region ?_
  refine OpsW.q rfl (q_move (v := S _) rfl) ?_
  refine OpsW.q rfl (q_move (v := S _) rfl) ?_
  refine OpsW.q rfl (o_call rfl Try.func64 rfl rfl (filledR_con (by omega))) ?_
  refine OpsW.q rfl (q_move (v := S _) rfl) ?_
  refine OpsW.q rfl (o_call rfl Try.func64 rfl rfl (filledR_con (by omega))) ?_
  refine OpsW.q rfl (q_cat rfl rfl (by omega)) ?_
  refine OpsW.q rfl (q_move (v := S _) rfl) ?_
  refine OpsW.q rfl (q_lenS Try.underlying9 rfl) ?_
  refine OpsW.q rfl (o_call rfl Try.func65 rfl rfl (longR_con (by omega))) ?_
  refine OpsW.q rfl (q_cat rfl rfl (by omega)) ?_
  refine OpsW.q rfl (q_move (v := S _) rfl) ?_
  refine OpsW.q rfl (q_lenS Try.underlying9 rfl) ?_
  refine OpsW.q rfl (o_call rfl Try.func65 rfl rfl (longR_con (by omega))) ?_
  refine OpsW.q rfl (q_cat rfl rfl (by omega)) ?_
  refine OpsW.q rfl (o_call rfl Try.func63 rfl rfl (hashR_con (blkA_length _ _) (by omega) (by omega))) ?_
  refine OpsW.q rfl (q_assign (v := S _) rfl) ?_
  refine OpsW.nil ?_
  refine SeqP.go ?_
  refine AW.seq ?_
  refine AW.drawK [] 3 rfl (by kernel_rfl) ?_
  refine SeqK.q rfl (q_loadA0 (n := 2) (by kernel_rfl) rfl (hS2.blk at1) (by rfl)) ?_
  refine SeqK.q rfl (q_move (v := S _) rfl) ?_
  refine SeqK.q rfl (o_call rfl Try.func66 rfl rfl (counterR_con (n := 1) hn)) ?_
  refine SeqK.done ?_
  refine OpsW.q rfl (o_call rfl Try.func62 rfl rfl (UnderR_con (hVk.le hS2.le) (hVs.le hS2.le) (keysL_length hk) (by rw [ctrB_length' hn]))) ?_
  rw [blkA_eq]
  refine OpsW.q rfl (q_assign (v := S _) rfl) ?_
  refine OpsW.nil ?_
  refine SeqP.go ?_
  refine AW.seq ?_
  refine AW.region ?_
  refine OpsW.q rfl (q_assign (v := .slice _ _ _) rfl) ?_
  refine OpsW.nil ?_
  refine SeqP.go ?_
  refine AW.seq ?_
  refine AW.seq ?_
  refine AW.region ?_
  refine OpsW.q rfl (q_assign (v := .int _ _) rfl) ?_
  refine OpsW.nil ?_
  refine SeqP.go ?_
  refine AW.block ?_
  replace hS2 := hS2.nil (el := 5) (sz := 1)
  replace hS2 := hS2.del del1
  replace hS2 := hS2.del del1
  refine AW.loop (fun m_ e_ H_ => ∃ (i : Nat) (vo : Value) (e0 : Env), m_ = 16 - i ∧ (i ≤ 16) ∧ e_ = upds e0 [(10, S (hashB (blkA key (zs 16)) (flB b ++ flB s ++ longB b.length ++ longB s.length))), (11, S (blkA key (ctrB nonce 1))), (12, vo), (13, .int .i64 (i : Int))] ∧ Sep H [.vec vo 5 1 i (nums .u8 (ofB (xorA (hashB (blkA key (zs 16)) (flB b ++ flB s ++ longB b.length ++ longB s.length)) (blkA key (ctrB nonce 1)) i)))] H_) _ ⟨0, nilV, _, rfl, (by omega), Slots.eq ⟨(by rfl), (by rfl), (by rfl), (by rfl),  trivial⟩, (by rw [xorA_zero]; exact hS2)⟩ ?_
  rintro m_ _ Hl0 ⟨i, vo, e0, rfl, hf, rfl, hSl0⟩
  try clear hS2
  refine AW.seq ?_
  refine AW.seq ?_
  refine AW.region ?_
  refine OpsW.q rfl (q_move (v := .int _ _) rfl) ?_
  refine OpsW.q rfl (q_lss rfl rfl) ?_
  refine OpsW.nil ?_
  refine SeqP.go ?_
  refine AW.cond2 rfl (fun h0 => ?_) (fun h0 => ?_)
  ·
    try simp only [decide_eq_true_eq, decide_eq_false_iff_not, Bool.or_eq_true, Bool.and_eq_true, Bool.or_eq_false_iff, Bool.and_eq_false_imp, Bool.not_eq_true', Bool.not_eq_false', ne_eq, Decidable.not_not, Int.not_lt, Int.not_le, Bool.not_eq_true, Bool.not_eq_false] at h0
    refine AW.exit ?_
    refine SeqP.exit ?_
    refine LoopP.exit ?_
    obtain rfl : i = 16 := by omega
    refine BlockP.here ?_
    refine SeqP.go ?_
    refine AW.seq ?_
    refine AW.region ?_
    refine OpsW.q rfl (q_move (v := vo) rfl) ?_
    refine OpsW.q rfl (q_stringB (hSl0.vec at0) Try.underlying33 Try.underlying5 Try.underlying9 rfl) ?_
    refine OpsW.q rfl (q_assign (v := S _) rfl) ?_
    refine OpsW.nil ?_
    refine SeqP.go ?_
    refine AW.ret ?_
    refine RetP.mk1 (H' := H) (v1 := S _) rfl rfl  hSl0.le ?_
    refine ⟨?_, rfl⟩
    rw [gtag_eq, tagB_eq, ← List.append_assoc (flB b ++ flB s)]
  try simp only [decide_eq_true_eq, decide_eq_false_iff_not, Bool.or_eq_true, Bool.and_eq_true, Bool.or_eq_false_iff, Bool.and_eq_false_imp, Bool.not_eq_true', Bool.not_eq_false', ne_eq, Decidable.not_not, Int.not_lt, Int.not_le, Bool.not_eq_true, Bool.not_eq_false] at h0
  refine AW.skip ?_
  refine SeqP.go ?_
  refine AW.seq ?_
  refine AW.block ?_
  refine AW.drawD 8 0 rfl (by kernel_rfl) (by kernel_rfl) ?_
  refine SeqD.a rfl (fun _ => q_move (v := vo) rfl) ?_
  refine SeqD.a rfl (fun _ => q_move (v := S _) rfl) ?_
  refine SeqD.a rfl (fun _ => q_move (v := .int _ _) rfl) ?_
  refine SeqD.a rfl (fun _ => q_indexS Try.underlying9 rfl rfl (by omega) (by omega)) ?_
  refine SeqD.a rfl (fun _ => q_move (v := S _) rfl) ?_
  refine SeqD.a rfl (fun _ => q_move (v := .int _ _) rfl) ?_
  refine SeqD.a rfl (fun _ => q_indexS Try.underlying9 rfl rfl (by omega) (by omega)) ?_
  refine SeqD.a rfl (fun _ => q_xorB rfl rfl) ?_
  refine SeqD.x rfl (s_buildSlice (z := .int .u8 0) (vs := nums .u8 (ofB [_])) hSl0 Try.underlying33 (by kernel_rfl) (by kernel_rfl) rfl (by rfl) (by rfl) (by decide) rfl (nums_one _ _) rfl) ?_
  rintro v49 H3 hS3
  clear hSl0
  refine ⟨trivial, ?_⟩
  refine SeqR2.done ?_
  refine OpsW.m rfl (s_append (sz := 1) (by_ := 1) (z := .int .u8 0) hS3 at1 Try.underlying33 (by kernel_rfl) (by kernel_rfl) (by kernel_rfl) rfl (by kernel_rfl) rfl rfl (src_vec (hS3.vec at0) (nums_one _ _)) (by unfold maxLen; omega) (by omega)) ?_
  rintro v50 H4 hS4
  clear hS3
  rw [← nums_append, ← ofB_app] at hS4
  replace hS4 := hS4.del del0
  refine OpsW.q rfl (q_assign (v := v50) rfl) ?_
  refine OpsW.nil ?_
  refine BlockP.go ?_
  refine SeqP.go ?_
  refine AW.region ?_
  refine OpsW.q rfl (q_move (v := .int _ _) rfl) ?_
  refine OpsW.q rfl (q_addI rfl rfl (by omega)) ?_
  refine OpsW.q rfl (q_assign (v := .int _ _) rfl) ?_
  refine OpsW.nil ?_
  exact LoopP.go _ (by omega) ⟨i + 1, v50, _, rfl, (by omega), Slots.eq ⟨(by rfl), (by rfl), (by rfl), (by rfl),  trivial⟩, (by rw [xorA_succ]; exact hS4)⟩
theorem SealR_con {key nonce b d : List UInt8} (hb : b.length ≤ 4294967296) (hd : d.length ≤ 4294967296) : Con Try.prog w0 27 #[S key, S nonce, S b, S d] H (fun v H' => v = .tuple #[S (sealP key nonce b d).1, .int .i64 (sealP key nonce b d).2] ∧ H' = H) := by
  have hS0 : Sep H [] H := Sep.refl
  refine Con.intro Try.func27 rfl rfl ?_
  refine AW.seq ?_
  refine AW.region ?_
  refine OpsW.q rfl (q_assign (v := S _) rfl) ?_
  refine OpsW.q rfl (q_assign (v := .int _ _) rfl) ?_
  refine OpsW.nil ?_
  refine SeqP.go ?_
  refine AW.seq ?_
  refine AW.seq ?_
  refine AW.region ?_
  refine OpsW.q rfl (q_move (v := S _) rfl) ?_
  refine OpsW.q rfl (q_lenS Try.underlying9 rfl) ?_
  refine OpsW.q rfl (q_neq rfl rfl) ?_
  refine OpsW.qb rfl (q_move (v := .bool _) rfl) ?_
  intro b15 eb15
  refine OpsW.g rfl rfl rfl (fun hB => by simp only [Bool.and_eq_true, beq_iff_eq] at hB; obtain rfl := hB; exact (q_move (v := S _) rfl)) ?_
  refine OpsW.g rfl rfl rfl (fun hB => by simp only [Bool.and_eq_true, beq_iff_eq] at hB; obtain rfl := hB; exact (q_lenS Try.underlying9 rfl)) ?_
  refine OpsW.g rfl rfl rfl (fun hB => by simp only [Bool.and_eq_true, beq_iff_eq] at hB; obtain rfl := hB; exact (q_neq rfl rfl)) ?_
  refine OpsW.q rfl (q_or2 rfl rfl rfl) ?_
  refine OpsW.nil ?_
  refine SeqP.go ?_
  refine AW.cond rfl (fun h0 => ?_) (fun h0 => ?_)
  ·
    try simp only [eb15, decide_eq_true_eq, decide_eq_false_iff_not, Bool.or_eq_true, Bool.and_eq_true, Bool.or_eq_false_iff, Bool.and_eq_false_imp, Bool.not_eq_true', Bool.not_eq_false', ne_eq, Decidable.not_not, Int.not_lt, Int.not_le, Bool.not_eq_true, Bool.not_eq_false] at h0
    rw [sealP_key (by omega)]
    refine AW.seq ?_
    refine AW.region ?_
    refine OpsW.q rfl (q_assign (v := S _) rfl) ?_
    refine OpsW.q rfl (q_assign (v := .int _ _) rfl) ?_
    refine OpsW.nil ?_
    refine SeqP.go ?_
    refine AW.ret ?_
    refine SeqP.ret ?_
    refine RetP.mk2 (H' := H) (v1 := S _) (v2 := .int _ _) rfl rfl rfl  hS0.le ?_
    exact ⟨rfl, rfl⟩
  try simp only [eb15, decide_eq_true_eq, decide_eq_false_iff_not, Bool.or_eq_true, Bool.and_eq_true, Bool.or_eq_false_iff, Bool.and_eq_false_imp, Bool.not_eq_true', Bool.not_eq_false', ne_eq, Decidable.not_not, Int.not_lt, Int.not_le, Bool.not_eq_true, Bool.not_eq_false] at h0
  have hkn : key.length = 16 ∧ nonce.length = 12 := by omega
  refine AW.skip ?_
  refine SeqP.go ?_
  refine AW.seq ?_
  refine AW.seq ?_
  refine AW.region ?_
  refine OpsW.q rfl (q_move (v := S _) rfl) ?_
  refine OpsW.q rfl (q_lenS Try.underlying9 rfl) ?_
  refine OpsW.q rfl (q_gtr rfl rfl) ?_
  refine OpsW.qb rfl (q_move (v := .bool _) rfl) ?_
  intro b23 eb23
  refine OpsW.g rfl rfl rfl (fun hB => by simp only [Bool.and_eq_true, beq_iff_eq] at hB; obtain rfl := hB; exact (q_move (v := S _) rfl)) ?_
  refine OpsW.g rfl rfl rfl (fun hB => by simp only [Bool.and_eq_true, beq_iff_eq] at hB; obtain rfl := hB; exact (q_lenS Try.underlying9 rfl)) ?_
  refine OpsW.g rfl rfl rfl (fun hB => by simp only [Bool.and_eq_true, beq_iff_eq] at hB; obtain rfl := hB; exact (q_gtr rfl rfl)) ?_
  refine OpsW.q rfl (q_or2 rfl rfl rfl) ?_
  refine OpsW.nil ?_
  refine SeqP.go ?_
  refine AW.cond rfl (fun h1 => ?_) (fun h1 => ?_)
  ·
    try simp only [eb15, eb23, decide_eq_true_eq, decide_eq_false_iff_not, Bool.or_eq_true, Bool.and_eq_true, Bool.or_eq_false_iff, Bool.and_eq_false_imp, Bool.not_eq_true', Bool.not_eq_false', ne_eq, Decidable.not_not, Int.not_lt, Int.not_le, Bool.not_eq_true, Bool.not_eq_false] at h1
    rw [sealP_big hkn (by omega)]
    refine AW.seq ?_
    refine AW.region ?_
    refine OpsW.q rfl (q_assign (v := S _) rfl) ?_
    refine OpsW.q rfl (q_assign (v := .int _ _) rfl) ?_
    refine OpsW.nil ?_
    refine SeqP.go ?_
    refine AW.ret ?_
    refine SeqP.ret ?_
    refine RetP.mk2 (H' := H) (v1 := S _) (v2 := .int _ _) rfl rfl rfl  hS0.le ?_
    exact ⟨rfl, rfl⟩
  try simp only [eb15, eb23, decide_eq_true_eq, decide_eq_false_iff_not, Bool.or_eq_true, Bool.and_eq_true, Bool.or_eq_false_iff, Bool.and_eq_false_imp, Bool.not_eq_true', Bool.not_eq_false', ne_eq, Decidable.not_not, Int.not_lt, Int.not_le, Bool.not_eq_true, Bool.not_eq_false] at h1
  have hbd : ¬ (1048576 < b.length ∨ 1048576 < d.length) := by omega
  have hsl := strmB_length' key nonce d
  have hgl := gtag_length' key nonce b (strmB key nonce d)
  refine AW.skip ?_
  refine SeqP.go ?_
  refine AW.seq ?_
  refine AW.region ?_
  refine OpsW.q rfl (q_move (v := S _) rfl) ?_
  refine OpsW.m rfl (o_call rfl Try.func38 rfl rfl (ReadyR_con hkn.1)) ?_
  rintro v29 H1 ⟨vk, vs, rfl, hR1⟩
  have hS1 := hS0.join hR1
  simp only [List.cons_append, List.nil_append] at hS1
  clear hR1 hS0
  refine OpsW.m rfl (s_alloc (z := .agg #[.slice none 0 0, .slice none 0 0]) (cs := [.slice none 0 0, .slice none 0 0]) hS1 (by kernel_rfl) rfl) ?_
  rintro _ H2 ⟨b10, rfl, hS2⟩
  clear hS1
  refine OpsW.ms (s_storeS (n := 2) hS2 at0 (by kernel_rfl) rfl rfl rfl (ones_two (hS2.vec at1).one (hS2.vec at2).one) rfl) ?_
  rintro _ H3 ⟨rfl, hS3⟩
  clear hS2
  refine OpsW.nil ?_
  refine SeqP.go ?_
  refine AW.seq ?_
  refine AW.region ?_
  refine OpsW.q rfl (q_loadA0 (n := 2) (by kernel_rfl) rfl (hS3.blk at0) (by simp; done)) ?_
  refine OpsW.q rfl (q_move (v := S _) rfl) ?_
  refine OpsW.q rfl (q_move (v := S _) rfl) ?_
  refine OpsW.q rfl (o_call rfl Try.func40 rfl rfl (streamR_con (hS3.vec at1) (hS3.vec at2) hkn.1 hkn.2 (by omega))) ?_
  refine OpsW.q rfl (q_assign (v := S _) rfl) ?_
  refine OpsW.nil ?_
  refine SeqP.go ?_
  refine AW.seq ?_
  refine AW.region ?_
  refine OpsW.q rfl (q_move (v := S _) rfl) ?_
  refine OpsW.q rfl (q_loadA0 (n := 2) (by kernel_rfl) rfl (hS3.blk at0) (by simp; done)) ?_
  refine OpsW.q rfl (q_move (v := S _) rfl) ?_
  refine OpsW.q rfl (q_move (v := S _) rfl) ?_
  refine OpsW.q rfl (q_move (v := S _) rfl) ?_
  refine OpsW.q rfl (o_call rfl Try.func39 rfl rfl (tagR_con (hS3.vec at1) (hS3.vec at2) hkn.1 hkn.2 (by omega) (by omega))) ?_
  refine OpsW.q rfl (q_cat rfl rfl (by omega)) ?_
  refine OpsW.q rfl (q_assign (v := S _) rfl) ?_
  refine OpsW.q rfl (q_assign (v := .int _ _) rfl) ?_
  refine OpsW.nil ?_
  refine SeqP.go ?_
  refine AW.ret ?_
  refine RetP.mk2 (H' := H) (v1 := S _) (v2 := .int _ _) rfl rfl rfl  hS3.le ?_
  rw [sealP_ok hkn hbd]
  exact ⟨rfl, rfl⟩
theorem OpenR_con {key nonce b s : List UInt8} (hb : b.length ≤ 4294967296) (hs : s.length ≤ 4294967296) : Con Try.prog w0 23 #[S key, S nonce, S b, S s] H (fun v H' => v = .tuple #[S (openP key nonce b s).1, .int .i64 (openP key nonce b s).2] ∧ H' = H) := by
  have hS0 : Sep H [] H := Sep.refl
  refine Con.intro Try.func23 rfl rfl ?_
  refine AW.seq ?_
  refine AW.region ?_
  refine OpsW.q rfl (q_assign (v := S _) rfl) ?_
  refine OpsW.q rfl (q_assign (v := .int _ _) rfl) ?_
  refine OpsW.nil ?_
  refine SeqP.go ?_
  refine AW.seq ?_
  refine AW.seq ?_
  refine AW.region ?_
  refine OpsW.q rfl (q_move (v := S _) rfl) ?_
  refine OpsW.q rfl (q_lenS Try.underlying9 rfl) ?_
  refine OpsW.q rfl (q_neq rfl rfl) ?_
  refine OpsW.qb rfl (q_move (v := .bool _) rfl) ?_
  intro b15 eb15
  refine OpsW.g rfl rfl rfl (fun hB => by simp only [Bool.and_eq_true, beq_iff_eq] at hB; obtain rfl := hB; exact (q_move (v := S _) rfl)) ?_
  refine OpsW.g rfl rfl rfl (fun hB => by simp only [Bool.and_eq_true, beq_iff_eq] at hB; obtain rfl := hB; exact (q_lenS Try.underlying9 rfl)) ?_
  refine OpsW.g rfl rfl rfl (fun hB => by simp only [Bool.and_eq_true, beq_iff_eq] at hB; obtain rfl := hB; exact (q_neq rfl rfl)) ?_
  refine OpsW.q rfl (q_or2 rfl rfl rfl) ?_
  refine OpsW.nil ?_
  refine SeqP.go ?_
  refine AW.cond rfl (fun h0 => ?_) (fun h0 => ?_)
  ·
    try simp only [eb15, decide_eq_true_eq, decide_eq_false_iff_not, Bool.or_eq_true, Bool.and_eq_true, Bool.or_eq_false_iff, Bool.and_eq_false_imp, Bool.not_eq_true', Bool.not_eq_false', ne_eq, Decidable.not_not, Int.not_lt, Int.not_le, Bool.not_eq_true, Bool.not_eq_false] at h0
    rw [openP_key (by omega)]
    refine AW.seq ?_
    refine AW.region ?_
    refine OpsW.q rfl (q_assign (v := S _) rfl) ?_
    refine OpsW.q rfl (q_assign (v := .int _ _) rfl) ?_
    refine OpsW.nil ?_
    refine SeqP.go ?_
    refine AW.ret ?_
    refine SeqP.ret ?_
    refine RetP.mk2 (H' := H) (v1 := S _) (v2 := .int _ _) rfl rfl rfl  hS0.le ?_
    exact ⟨rfl, rfl⟩
  try simp only [eb15, decide_eq_true_eq, decide_eq_false_iff_not, Bool.or_eq_true, Bool.and_eq_true, Bool.or_eq_false_iff, Bool.and_eq_false_imp, Bool.not_eq_true', Bool.not_eq_false', ne_eq, Decidable.not_not, Int.not_lt, Int.not_le, Bool.not_eq_true, Bool.not_eq_false] at h0
  have hkn : key.length = 16 ∧ nonce.length = 12 := by omega
  refine AW.skip ?_
  refine SeqP.go ?_
  refine AW.seq ?_
  refine AW.seq ?_
  refine AW.region ?_
  refine OpsW.q rfl (q_move (v := S _) rfl) ?_
  refine OpsW.q rfl (q_lenS Try.underlying9 rfl) ?_
  refine OpsW.q rfl (q_lss rfl rfl) ?_
  refine OpsW.nil ?_
  refine SeqP.go ?_
  refine AW.cond rfl (fun h1 => ?_) (fun h1 => ?_)
  ·
    try simp only [eb15, decide_eq_true_eq, decide_eq_false_iff_not, Bool.or_eq_true, Bool.and_eq_true, Bool.or_eq_false_iff, Bool.and_eq_false_imp, Bool.not_eq_true', Bool.not_eq_false', ne_eq, Decidable.not_not, Int.not_lt, Int.not_le, Bool.not_eq_true, Bool.not_eq_false] at h1
    rw [openP_short hkn (by omega)]
    refine AW.seq ?_
    refine AW.region ?_
    refine OpsW.q rfl (q_assign (v := S _) rfl) ?_
    refine OpsW.q rfl (q_assign (v := .int _ _) rfl) ?_
    refine OpsW.nil ?_
    refine SeqP.go ?_
    refine AW.ret ?_
    refine SeqP.ret ?_
    refine RetP.mk2 (H' := H) (v1 := S _) (v2 := .int _ _) rfl rfl rfl  hS0.le ?_
    exact ⟨rfl, rfl⟩
  try simp only [eb15, decide_eq_true_eq, decide_eq_false_iff_not, Bool.or_eq_true, Bool.and_eq_true, Bool.or_eq_false_iff, Bool.and_eq_false_imp, Bool.not_eq_true', Bool.not_eq_false', ne_eq, Decidable.not_not, Int.not_lt, Int.not_le, Bool.not_eq_true, Bool.not_eq_false] at h1
  have h16 : ¬ s.length < 16 := by omega
  refine AW.skip ?_
  refine SeqP.go ?_
  refine AW.seq ?_
  refine AW.seq ?_
  refine AW.region ?_
  refine OpsW.q rfl (q_move (v := S _) rfl) ?_
  refine OpsW.q rfl (q_lenS Try.underlying9 rfl) ?_
  refine OpsW.q rfl (q_gtr rfl rfl) ?_
  refine OpsW.qb rfl (q_move (v := .bool _) rfl) ?_
  intro b26 eb26
  refine OpsW.g rfl rfl rfl (fun hB => by simp only [Bool.and_eq_true, beq_iff_eq] at hB; obtain rfl := hB; exact (q_move (v := S _) rfl)) ?_
  refine OpsW.g rfl rfl rfl (fun hB => by simp only [Bool.and_eq_true, beq_iff_eq] at hB; obtain rfl := hB; exact (q_lenS Try.underlying9 rfl)) ?_
  refine OpsW.g rfl rfl rfl (fun hB => by simp only [Bool.and_eq_true, beq_iff_eq] at hB; obtain rfl := hB; exact (q_gtr rfl rfl)) ?_
  refine OpsW.q rfl (q_or2 rfl rfl rfl) ?_
  refine OpsW.nil ?_
  refine SeqP.go ?_
  refine AW.cond rfl (fun h2 => ?_) (fun h2 => ?_)
  ·
    try simp only [eb15, eb26, decide_eq_true_eq, decide_eq_false_iff_not, Bool.or_eq_true, Bool.and_eq_true, Bool.or_eq_false_iff, Bool.and_eq_false_imp, Bool.not_eq_true', Bool.not_eq_false', ne_eq, Decidable.not_not, Int.not_lt, Int.not_le, Bool.not_eq_true, Bool.not_eq_false] at h2
    rw [openP_big hkn h16 (by omega)]
    refine AW.seq ?_
    refine AW.region ?_
    refine OpsW.q rfl (q_assign (v := S _) rfl) ?_
    refine OpsW.q rfl (q_assign (v := .int _ _) rfl) ?_
    refine OpsW.nil ?_
    refine SeqP.go ?_
    refine AW.ret ?_
    refine SeqP.ret ?_
    refine RetP.mk2 (H' := H) (v1 := S _) (v2 := .int _ _) rfl rfl rfl  hS0.le ?_
    exact ⟨rfl, rfl⟩
  try simp only [eb15, eb26, decide_eq_true_eq, decide_eq_false_iff_not, Bool.or_eq_true, Bool.and_eq_true, Bool.or_eq_false_iff, Bool.and_eq_false_imp, Bool.not_eq_true', Bool.not_eq_false', ne_eq, Decidable.not_not, Int.not_lt, Int.not_le, Bool.not_eq_true, Bool.not_eq_false] at h2
  have hbd : ¬ (1048576 < b.length ∨ 1048592 < s.length) := by omega
  have hsl := strmB_length' key nonce (s.take (s.length - 16))
  have htl : (s.take (s.length - 16)).length = s.length - 16 := by rw [List.length_take]; omega
  refine AW.skip ?_
  refine SeqP.go ?_
  refine AW.seq ?_
  refine AW.region ?_
  refine OpsW.q rfl (q_move (v := S _) rfl) ?_
  refine OpsW.m rfl (o_call rfl Try.func38 rfl rfl (ReadyR_con hkn.1)) ?_
  rintro v32 H1 ⟨vk, vs, rfl, hR1⟩
  have hS1 := hS0.join hR1
  simp only [List.cons_append, List.nil_append] at hS1
  clear hR1 hS0
  refine OpsW.m rfl (s_alloc (z := .agg #[.slice none 0 0, .slice none 0 0]) (cs := [.slice none 0 0, .slice none 0 0]) hS1 (by kernel_rfl) rfl) ?_
  rintro _ H2 ⟨b10, rfl, hS2⟩
  clear hS1
  refine OpsW.ms (s_storeS (n := 2) hS2 at0 (by kernel_rfl) rfl rfl rfl (ones_two (hS2.vec at1).one (hS2.vec at2).one) rfl) ?_
  rintro _ H3 ⟨rfl, hS3⟩
  clear hS2
  refine OpsW.nil ?_
  refine SeqP.go ?_
  refine AW.seq ?_
  refine AW.region ?_
  refine OpsW.q rfl (q_move (v := S _) rfl) ?_
  refine OpsW.q rfl (q_move (v := S _) rfl) ?_
  refine OpsW.q rfl (q_lenS Try.underlying9 rfl) ?_
  refine OpsW.q rfl (q_subI rfl rfl (by omega)) ?_
  refine OpsW.q rfl (q_sliceS_hi Try.underlying9 rfl rfl (by omega) (by omega)) ?_
  rw [show ((s.length : Int) - 16).toNat = s.length - 16 from by omega]
  refine OpsW.q rfl (q_assign (v := S _) rfl) ?_
  refine OpsW.nil ?_
  refine SeqP.go ?_
  refine AW.seq ?_
  refine AW.seq ?_
  refine AW.drawK [] 10 rfl (by kernel_rfl) ?_
  refine SeqK.q rfl (q_loadA0 (n := 2) (by kernel_rfl) rfl (hS3.blk at0) (by simp; done)) ?_
  refine SeqK.q rfl (q_move (v := S _) rfl) ?_
  refine SeqK.q rfl (q_move (v := S _) rfl) ?_
  refine SeqK.q rfl (q_move (v := S _) rfl) ?_
  refine SeqK.q rfl (o_call rfl Try.func39 rfl rfl (tagR_con (hS3.vec at1) (hS3.vec at2) hkn.1 hkn.2 (by omega) (by omega))) ?_
  refine SeqK.q rfl (q_move (v := S _) rfl) ?_
  refine SeqK.q rfl (q_move (v := S _) rfl) ?_
  refine SeqK.q rfl (q_lenS Try.underlying9 rfl) ?_
  refine SeqK.q rfl (q_subI rfl rfl (by omega)) ?_
  refine SeqK.q rfl (q_sliceS_lo Try.underlying9 rfl rfl (by omega) (by omega)) ?_
  rw [show ((s.length : Int) - 16).toNat = s.length - 16 from by omega]
  refine SeqK.done ?_
  refine OpsW.q rfl (q_neS rfl rfl) ?_
  refine OpsW.nil ?_
  refine SeqP.go ?_
  refine AW.cond rfl (fun h3 => ?_) (fun h3 => ?_)
  ·
    try simp only [eb15, eb26, decide_eq_true_eq, decide_eq_false_iff_not, Bool.or_eq_true, Bool.and_eq_true, Bool.or_eq_false_iff, Bool.and_eq_false_imp, Bool.not_eq_true', Bool.not_eq_false', ne_eq, Decidable.not_not, Int.not_lt, Int.not_le, Bool.not_eq_true, Bool.not_eq_false] at h3
    have hne : ¬ gtag key nonce b (s.take (s.length - 16)) = s.drop (s.length - 16) := h3
    rw [openP_tag hkn h16 hbd hne]
    refine AW.seq ?_
    refine AW.region ?_
    refine OpsW.q rfl (q_assign (v := S _) rfl) ?_
    refine OpsW.q rfl (q_assign (v := .int _ _) rfl) ?_
    refine OpsW.nil ?_
    refine SeqP.go ?_
    refine AW.ret ?_
    refine SeqP.ret ?_
    refine RetP.mk2 (H' := H) (v1 := S _) (v2 := .int _ _) rfl rfl rfl  hS3.le ?_
    exact ⟨rfl, rfl⟩
  try simp only [eb15, eb26, decide_eq_true_eq, decide_eq_false_iff_not, Bool.or_eq_true, Bool.and_eq_true, Bool.or_eq_false_iff, Bool.and_eq_false_imp, Bool.not_eq_true', Bool.not_eq_false', ne_eq, Decidable.not_not, Int.not_lt, Int.not_le, Bool.not_eq_true, Bool.not_eq_false] at h3
  have heq : gtag key nonce b (s.take (s.length - 16)) = s.drop (s.length - 16) := h3
  refine AW.skip ?_
  refine SeqP.go ?_
  refine AW.seq ?_
  refine AW.region ?_
  refine OpsW.q rfl (q_loadA0 (n := 2) (by kernel_rfl) rfl (hS3.blk at0) (by simp; done)) ?_
  refine OpsW.q rfl (q_move (v := S _) rfl) ?_
  refine OpsW.q rfl (q_move (v := S _) rfl) ?_
  refine OpsW.q rfl (o_call rfl Try.func40 rfl rfl (streamR_con (hS3.vec at1) (hS3.vec at2) hkn.1 hkn.2 (by omega))) ?_
  refine OpsW.q rfl (q_assign (v := S _) rfl) ?_
  refine OpsW.q rfl (q_assign (v := .int _ _) rfl) ?_
  refine OpsW.nil ?_
  refine SeqP.go ?_
  refine AW.ret ?_
  refine RetP.mk2 (H' := H) (v1 := S _) (v2 := .int _ _) rfl rfl rfl  hS3.le ?_
  rw [openP_ok hkn h16 hbd heq]
  exact ⟨rfl, rfl⟩
theorem gOpen_con {key nonce b s : List UInt8} (hb : b.length ≤ 4294967296) (hs : s.length ≤ 4294967296) : Con Try.prog w0 19 #[S key, S nonce, S b, S s] H (fun v H' => v = .tuple #[S (openP key nonce b s).1, .int .i64 (openP key nonce b s).2] ∧ H' = H) := by
  have hS0 : Sep H [] H := Sep.refl
  refine Con.intro Try.func19 rfl rfl ?_
  refine AW.seq ?_
  refine AW.region ?_
  refine OpsW.q rfl (q_assign (v := S _) rfl) ?_
  refine OpsW.q rfl (q_assign (v := .int _ _) rfl) ?_
  refine OpsW.nil ?_
  refine SeqP.go ?_
  refine AW.seq ?_
  refine AW.region ?_
  refine OpsW.q rfl (q_move (v := S _) rfl) ?_
  refine OpsW.q rfl (q_lenS Try.underlying9 rfl) ?_
  refine OpsW.q rfl (q_subI rfl rfl (by omega)) ?_
  refine OpsW.q rfl (q_assign (v := .int _ _) rfl) ?_
  refine OpsW.nil ?_
  refine SeqP.go ?_
  refine AW.seq ?_
  refine AW.block ?_
  refine AW.seq ?_
  refine AW.region ?_
  refine OpsW.q rfl (q_move (v := S _) rfl) ?_
  refine OpsW.q rfl (q_lenS Try.underlying9 rfl) ?_
  refine OpsW.q rfl (q_neq rfl rfl) ?_
  refine OpsW.qb rfl (q_move (v := .bool _) rfl) ?_
  intro b21 eb21
  refine OpsW.g rfl rfl rfl (fun hB => by simp only [Bool.and_eq_true, beq_iff_eq] at hB; obtain rfl := hB; exact (q_move (v := S _) rfl)) ?_
  refine OpsW.g rfl rfl rfl (fun hB => by simp only [Bool.and_eq_true, beq_iff_eq] at hB; obtain rfl := hB; exact (q_lenS Try.underlying9 rfl)) ?_
  refine OpsW.g rfl rfl rfl (fun hB => by simp only [Bool.and_eq_true, beq_iff_eq] at hB; obtain rfl := hB; exact (q_neq rfl rfl)) ?_
  refine OpsW.q rfl (q_or2 rfl rfl rfl) ?_
  refine OpsW.q rfl (q_assign (v := .bool _) rfl) ?_
  refine OpsW.nil ?_
  refine SeqP.go ?_
  refine AW.cond rfl (fun h0 => ?_) (fun h0 => ?_)
  ·
    try simp only [eb21, decide_eq_true_eq, decide_eq_false_iff_not, Bool.or_eq_true, Bool.and_eq_true, Bool.or_eq_false_iff, Bool.and_eq_false_imp, Bool.not_eq_true', Bool.not_eq_false', ne_eq, Decidable.not_not, Int.not_lt, Int.not_le, Bool.not_eq_true, Bool.not_eq_false] at h0
    rw [openP_key (by omega)]
    refine AW.seq ?_
    refine AW.region ?_
    refine OpsW.q rfl (q_assign (v := S _) rfl) ?_
    refine OpsW.q rfl (q_assign (v := .int _ _) rfl) ?_
    refine OpsW.nil ?_
    refine SeqP.go ?_
    refine AW.ret ?_
    refine BlockP.ret ?_
    refine SeqP.ret ?_
    refine RetP.mk2 (H' := H) (v1 := S _) (v2 := .int _ _) rfl rfl rfl  hS0.le ?_
    exact ⟨rfl, rfl⟩
  try simp only [eb21, decide_eq_true_eq, decide_eq_false_iff_not, Bool.or_eq_true, Bool.and_eq_true, Bool.or_eq_false_iff, Bool.and_eq_false_imp, Bool.not_eq_true', Bool.not_eq_false', ne_eq, Decidable.not_not, Int.not_lt, Int.not_le, Bool.not_eq_true, Bool.not_eq_false] at h0
  have hkn : key.length = 16 ∧ nonce.length = 12 := by omega
  refine AW.seq ?_
  refine AW.region ?_
  refine OpsW.q rfl (q_move (v := .int _ _) rfl) ?_
  refine OpsW.q rfl (q_lss rfl rfl) ?_
  refine OpsW.q rfl (q_assign (v := .bool _) rfl) ?_
  refine OpsW.nil ?_
  refine SeqP.go ?_
  refine AW.cond rfl (fun h1 => ?_) (fun h1 => ?_)
  ·
    try simp only [eb21, decide_eq_true_eq, decide_eq_false_iff_not, Bool.or_eq_true, Bool.and_eq_true, Bool.or_eq_false_iff, Bool.and_eq_false_imp, Bool.not_eq_true', Bool.not_eq_false', ne_eq, Decidable.not_not, Int.not_lt, Int.not_le, Bool.not_eq_true, Bool.not_eq_false] at h1
    rw [openP_short hkn (by omega)]
    refine AW.seq ?_
    refine AW.region ?_
    refine OpsW.q rfl (q_assign (v := S _) rfl) ?_
    refine OpsW.q rfl (q_assign (v := .int _ _) rfl) ?_
    refine OpsW.nil ?_
    refine SeqP.go ?_
    refine AW.ret ?_
    refine BlockP.ret ?_
    refine SeqP.ret ?_
    refine RetP.mk2 (H' := H) (v1 := S _) (v2 := .int _ _) rfl rfl rfl  hS0.le ?_
    exact ⟨rfl, rfl⟩
  try simp only [eb21, decide_eq_true_eq, decide_eq_false_iff_not, Bool.or_eq_true, Bool.and_eq_true, Bool.or_eq_false_iff, Bool.and_eq_false_imp, Bool.not_eq_true', Bool.not_eq_false', ne_eq, Decidable.not_not, Int.not_lt, Int.not_le, Bool.not_eq_true, Bool.not_eq_false] at h1
  have h16 : ¬ s.length < 16 := by omega
  rw [show (s.length : Int) - 16 = ((s.length - 16 : Nat) : Int) from by omega]
  refine AW.seq ?_
  refine AW.region ?_
  refine OpsW.q rfl (q_move (v := S _) rfl) ?_
  refine OpsW.q rfl (q_lenS Try.underlying9 rfl) ?_
  refine OpsW.q rfl (q_gtr rfl rfl) ?_
  refine OpsW.qb rfl (q_move (v := .bool _) rfl) ?_
  intro b33 eb33
  refine OpsW.g rfl rfl rfl (fun hB => by simp only [Bool.and_eq_true, beq_iff_eq] at hB; obtain rfl := hB; exact (q_move (v := .int _ _) rfl)) ?_
  refine OpsW.g rfl rfl rfl (fun hB => by simp only [Bool.and_eq_true, beq_iff_eq] at hB; obtain rfl := hB; exact (q_gtr rfl rfl)) ?_
  refine OpsW.q rfl (q_or2 rfl rfl rfl) ?_
  refine OpsW.q rfl (q_assign (v := .bool _) rfl) ?_
  refine OpsW.nil ?_
  refine SeqP.go ?_
  refine AW.cond rfl (fun h2 => ?_) (fun h2 => ?_)
  ·
    try simp only [eb21, eb33, decide_eq_true_eq, decide_eq_false_iff_not, Bool.or_eq_true, Bool.and_eq_true, Bool.or_eq_false_iff, Bool.and_eq_false_imp, Bool.not_eq_true', Bool.not_eq_false', ne_eq, Decidable.not_not, Int.not_lt, Int.not_le, Bool.not_eq_true, Bool.not_eq_false] at h2
    rw [openP_big hkn h16 (by omega)]
    refine AW.seq ?_
    refine AW.region ?_
    refine OpsW.q rfl (q_assign (v := S _) rfl) ?_
    refine OpsW.q rfl (q_assign (v := .int _ _) rfl) ?_
    refine OpsW.nil ?_
    refine SeqP.go ?_
    refine AW.ret ?_
    refine BlockP.ret ?_
    refine SeqP.ret ?_
    refine RetP.mk2 (H' := H) (v1 := S _) (v2 := .int _ _) rfl rfl rfl  hS0.le ?_
    exact ⟨rfl, rfl⟩
  try simp only [eb21, eb33, decide_eq_true_eq, decide_eq_false_iff_not, Bool.or_eq_true, Bool.and_eq_true, Bool.or_eq_false_iff, Bool.and_eq_false_imp, Bool.not_eq_true', Bool.not_eq_false', ne_eq, Decidable.not_not, Int.not_lt, Int.not_le, Bool.not_eq_true, Bool.not_eq_false] at h2
  have hbd : ¬ (1048576 < b.length ∨ 1048592 < s.length) := by omega
  have hsl := strmB_length' key nonce (s.take (s.length - 16))
  have htl : (s.take (s.length - 16)).length = s.length - 16 := by rw [List.length_take]; omega
  have hp := pair_length (beK (blkA key (ctrB nonce 1)) 16)
  have ho := overK_length' key nonce ((s.length - 16 + 15) / 16)
  have hgl := gtag_length' key nonce b (s.take (s.length - 16))
  refine AW.skip ?_
  refine BlockP.go ?_
  refine SeqP.go ?_
  refine AW.seq ?_
  refine AW.region ?_
  refine OpsW.q rfl (q_move (v := S _) rfl) ?_
  refine OpsW.q rfl (q_move (v := S _) rfl) ?_
  refine OpsW.q rfl (q_move (v := .int _ _) rfl) ?_
  refine OpsW.q rfl (o_call rfl Try.func28 rfl rfl (pads_con hkn.1 hkn.2 (by omega))) ?_
  refine OpsW.q rfl (q_move (v := .tuple _) rfl) ?_
  refine OpsW.q rfl (q_extract (v := S _) rfl rfl) ?_
  refine OpsW.q rfl (q_extract (v := .agg _) rfl rfl) ?_
  refine OpsW.q rfl (q_extract (v := S _) rfl rfl) ?_
  refine OpsW.m rfl (s_allocN (k := .u64) (m := 2) hS0 (by kernel_rfl)) ?_
  rintro _ H1 ⟨b12, rfl, hS1⟩
  clear hS0
  refine OpsW.q rfl (q_assign (v := S _) rfl) ?_
  refine OpsW.ms (s_storeA (n := 2) (k := .u64) hS1 at0 (by kernel_rfl) rfl rfl (by with_reducible assumption) (by rfl)) ?_
  rintro _ H2 ⟨rfl, hS2⟩
  clear hS1
  refine OpsW.q rfl (q_assign (v := S _) rfl) ?_
  refine OpsW.nil ?_
  refine SeqP.go ?_
  refine AW.seq ?_
  refine AW.seq ?_
  refine AW.drawK [] 10 rfl (by kernel_rfl) ?_
  refine SeqK.q rfl (q_move (v := S _) rfl) ?_
  refine SeqK.q rfl (q_loadAN (n := 2) (k := .u64) (by kernel_rfl) rfl (hS2.blk at0) (by with_reducible assumption)) ?_
  refine SeqK.q rfl (q_move (v := S _) rfl) ?_
  refine SeqK.q rfl (q_move (v := S _) rfl) ?_
  refine SeqK.q rfl (q_move (v := .int _ _) rfl) ?_
  refine SeqK.q rfl (q_sliceS_hi Try.underlying9 rfl rfl (by omega) (by omega)) ?_
  rw [Int.toNat_natCast]
  refine SeqK.q rfl (o_call rfl Try.func29 rfl rfl (gtag_con (blkA_length _ _) (blkA_length _ _) (by omega) (by omega))) ?_
  rw [← gtag_eq key nonce b (s.take (s.length - 16))]
  refine SeqK.q rfl (q_move (v := S _) rfl) ?_
  refine SeqK.q rfl (q_move (v := .int _ _) rfl) ?_
  refine SeqK.q rfl (q_sliceS_lo Try.underlying9 rfl rfl (by omega) (by omega)) ?_
  rw [Int.toNat_natCast]
  refine SeqK.done ?_
  refine OpsW.q rfl (o_call rfl Try.func20 rfl rfl (Same_con (by omega))) ?_
  refine OpsW.q rfl (q_not rfl) ?_
  refine OpsW.nil ?_
  refine SeqP.go ?_
  refine AW.cond rfl (fun h3 => ?_) (fun h3 => ?_)
  ·
    try simp only [eb21, eb33, decide_eq_true_eq, decide_eq_false_iff_not, Bool.or_eq_true, Bool.and_eq_true, Bool.or_eq_false_iff, Bool.and_eq_false_imp, Bool.not_eq_true', Bool.not_eq_false', ne_eq, Decidable.not_not, Int.not_lt, Int.not_le, Bool.not_eq_true, Bool.not_eq_false] at h3
    have hne : ¬ gtag key nonce b (s.take (s.length - 16)) = s.drop (s.length - 16) := by simpa using h3
    rw [openP_tag hkn h16 hbd hne]
    refine AW.seq ?_
    refine AW.region ?_
    refine OpsW.q rfl (q_assign (v := S _) rfl) ?_
    refine OpsW.q rfl (q_assign (v := .int _ _) rfl) ?_
    refine OpsW.nil ?_
    refine SeqP.go ?_
    refine AW.ret ?_
    refine SeqP.ret ?_
    refine RetP.mk2 (H' := H) (v1 := S _) (v2 := .int _ _) rfl rfl rfl  hS2.le ?_
    exact ⟨rfl, rfl⟩
  try simp only [eb21, eb33, decide_eq_true_eq, decide_eq_false_iff_not, Bool.or_eq_true, Bool.and_eq_true, Bool.or_eq_false_iff, Bool.and_eq_false_imp, Bool.not_eq_true', Bool.not_eq_false', ne_eq, Decidable.not_not, Int.not_lt, Int.not_le, Bool.not_eq_true, Bool.not_eq_false] at h3
  have heq : gtag key nonce b (s.take (s.length - 16)) = s.drop (s.length - 16) := by simpa using h3
  refine AW.skip ?_
  refine SeqP.go ?_
  refine AW.seq ?_
  refine AW.region ?_
  refine OpsW.q rfl (q_move (v := S _) rfl) ?_
  refine OpsW.q rfl (q_move (v := .int _ _) rfl) ?_
  refine OpsW.q rfl (q_sliceS_hi Try.underlying9 rfl rfl (by omega) (by omega)) ?_
  rw [Int.toNat_natCast]
  refine OpsW.q rfl (q_move (v := S _) rfl) ?_
  refine OpsW.q rfl (o_call rfl Try.func30 rfl rfl (laid_con (by rw [htl, ho]; omega) (by omega))) ?_
  refine OpsW.q rfl (q_assign (v := S _) rfl) ?_
  refine OpsW.q rfl (q_assign (v := .int _ _) rfl) ?_
  refine OpsW.nil ?_
  refine SeqP.go ?_
  refine AW.ret ?_
  refine RetP.mk2 (H' := H) (v1 := S _) (v2 := .int _ _) rfl rfl rfl  hS2.le ?_
  rw [openP_ok hkn h16 hbd heq, strmB_eq, htl]
  exact ⟨rfl, rfl⟩
end
end Go.Proofs.Ytkfdoicjpoofhaa
end
section
namespace Go.Proofs.Ytkfdoicjpoofhaa.Ch
open Go Go.RowKit D
set_option linter.unusedVariables false
set_option linter.unusedSimpArgs false
set_option maxRecDepth 100000
set_option maxHeartbeats 1000000
section
variable {w0 : World} {H : Hp}
theorem rotl_con (x k : Int) : Con Try.prog w0 78 #[.int .u32 x, .int .i64 k] H (fun v H' => v = .int .u32 (rotl x k) ∧ H' = H) := by
  refine Con.intro Try.func78 rfl rfl ?_
  refine AW.seq ?_
  refine AW.region ?_
  refine OpsW.q rfl (q_assign (v := .int _ _) rfl) ?_
  refine OpsW.nil ?_
  refine SeqP.go ?_
  refine AW.seq ?_
  refine AW.region ?_
  refine OpsW.q rfl (q_move (v := .int _ _) rfl) ?_
  refine OpsW.q rfl (q_convInt rfl Try.underlying40 rfl) ?_
  refine OpsW.q rfl (q_and rfl rfl) ?_
  refine OpsW.q rfl (q_assign (v := .int _ _) rfl) ?_
  refine OpsW.nil ?_
  refine SeqP.go ?_
  refine AW.seq ?_
  refine AW.region ?_
  refine OpsW.q rfl (q_move (v := .int _ _) rfl) ?_
  refine OpsW.q rfl (q_move (v := .int _ _) rfl) ?_
  refine OpsW.q rfl (q_shl rfl rfl (iand_nonneg _ _)) ?_
  refine OpsW.q rfl (q_move (v := .int _ _) rfl) ?_
  refine OpsW.q rfl (q_move (v := .int _ _) rfl) ?_
  refine OpsW.q rfl (q_sub rfl rfl) ?_
  refine OpsW.q rfl (q_shr rfl rfl (wrap_u64_nonneg _)) ?_
  refine OpsW.q rfl (q_or rfl rfl) ?_
  refine OpsW.q rfl (q_assign (v := .int _ _) rfl) ?_
  refine OpsW.nil ?_
  refine SeqP.go ?_
  refine AW.ret ?_
  refine RetP.mk1 (H' := H) (v1 := .int _ _) rfl rfl  (by exact (Hp.le_refl _)) ?_
  exact ⟨by unfold rotl; rfl, rfl⟩
theorem number_con (s : List UInt8) (hs : 4 ≤ s.length) : Con Try.prog w0 58 #[S s] H (fun v H' => v = .int .u32 (word s) ∧ H' = H) := by
  refine Con.intro Try.func58 rfl rfl ?_
  refine AW.seq ?_
  refine AW.region ?_
  refine OpsW.q rfl (q_assign (v := .int _ _) rfl) ?_
  refine OpsW.nil ?_
  refine SeqP.go ?_
  refine AW.seq ?_
  refine AW.drawK [] 17 rfl (by kernel_rfl) ?_
  refine SeqK.q rfl (q_move (v := S _) rfl) ?_
  refine SeqK.q rfl (q_indexS Try.underlying9 rfl rfl (by omega) (by omega)) ?_
  refine SeqK.q rfl (q_convInt rfl Try.underlying52 rfl) ?_
  refine SeqK.q rfl (q_move (v := S _) rfl) ?_
  refine SeqK.q rfl (q_indexS Try.underlying9 rfl rfl (by omega) (by omega)) ?_
  refine SeqK.q rfl (q_convInt rfl Try.underlying52 rfl) ?_
  refine SeqK.q rfl (q_shl rfl rfl (by omega)) ?_
  refine SeqK.q rfl (q_or rfl rfl) ?_
  refine SeqK.q rfl (q_move (v := S _) rfl) ?_
  refine SeqK.q rfl (q_indexS Try.underlying9 rfl rfl (by omega) (by omega)) ?_
  refine SeqK.q rfl (q_convInt rfl Try.underlying52 rfl) ?_
  refine SeqK.q rfl (q_shl rfl rfl (by omega)) ?_
  refine SeqK.q rfl (q_or rfl rfl) ?_
  refine SeqK.q rfl (q_move (v := S _) rfl) ?_
  refine SeqK.q rfl (q_indexS Try.underlying9 rfl rfl (by omega) (by omega)) ?_
  refine SeqK.q rfl (q_convInt rfl Try.underlying52 rfl) ?_
  refine SeqK.q rfl (q_shl rfl rfl (by omega)) ?_
  refine SeqK.done ?_
  refine OpsW.q rfl (q_or rfl rfl) ?_
  refine OpsW.q rfl (q_assign (v := .int _ _) rfl) ?_
  refine OpsW.nil ?_
  refine SeqP.go ?_
  refine AW.ret ?_
  refine RetP.mk1 (H' := H) (v1 := .int _ _) rfl rfl  (by exact (Hp.le_refl _)) ?_
  exact ⟨by unfold word; rfl, rfl⟩
theorem quarter_con {bv sz : Nat} {el : TypeId} {a b c d : Int} (xs : List Int) (hl : xs.length = 16) (ha : 0 ≤ a ∧ a < 16) (hb : 0 ≤ b ∧ b < 16) (hc : 0 ≤ c ∧ c < 16) (hd : 0 ≤ d ∧ d < 16) :
    Con Try.prog w0 59 #[.pointer (some ⟨bv, 0, none⟩), .int .i64 a, .int .i64 b, .int .i64 c, .int .i64 d] (H.set bv ⟨nums .u32 xs, sz, el⟩)
      (fun v H' => v = .tuple #[] ∧ H' = H.set bv ⟨nums .u32 (quarter xs a.toNat b.toNat c.toNat d.toNat), sz, el⟩) := by
  refine Con.intro Try.func59 rfl rfl ?_
  refine AW.seq ?_
  refine AW.drawK [] 12 rfl (by kernel_rfl) ?_
  refine SeqK.q rfl (q_move (v := .pointer _) rfl) ?_
  refine SeqK.q rfl (q_move (v := .int _ _) rfl) ?_
  refine SeqK.q rfl (q_nilCheck rfl) ?_
  refine SeqK.q rfl (q_indexAddrA0 Try.underlying54 (by kernel_rfl) rfl rfl (by omega) (by omega)) ?_
  refine SeqK.q rfl (q_loadN (by kernel_rfl) rfl (by exact Hp.set_self) (by omega)) ?_
  refine SeqK.q rfl (q_move (v := .pointer _) rfl) ?_
  refine SeqK.q rfl (q_move (v := .int _ _) rfl) ?_
  refine SeqK.q rfl (q_nilCheck rfl) ?_
  refine SeqK.q rfl (q_indexAddrA0 Try.underlying54 (by kernel_rfl) rfl rfl (by omega) (by omega)) ?_
  refine SeqK.q rfl (q_loadN (by kernel_rfl) rfl (by exact Hp.set_self) (by omega)) ?_
  refine SeqK.q rfl (q_add rfl rfl) ?_
  refine SeqK.q rfl (q_nilCheck rfl) ?_
  refine SeqK.done ?_
  refine OpsW.q rfl (q_indexAddrA0 Try.underlying54 (by kernel_rfl) rfl rfl (by omega) (by omega)) ?_
  refine OpsW.s (o_storeN1 (by kernel_rfl) rfl rfl (by omega)) ?_
  refine OpsW.nil ?_
  refine SeqP.go ?_
  refine AW.seq ?_
  refine AW.drawK [] 15 rfl (by kernel_rfl) ?_
  refine SeqK.q rfl (q_move (v := .pointer _) rfl) ?_
  refine SeqK.q rfl (q_move (v := .int _ _) rfl) ?_
  refine SeqK.q rfl (q_move (v := .pointer _) rfl) ?_
  refine SeqK.q rfl (q_move (v := .int _ _) rfl) ?_
  refine SeqK.q rfl (q_nilCheck rfl) ?_
  refine SeqK.q rfl (q_indexAddrA0 Try.underlying54 (by kernel_rfl) rfl rfl (by omega) (by omega)) ?_
  refine SeqK.q rfl (q_loadN (by kernel_rfl) rfl (by exact Hp.set_self) (by simp only [nums_length, List.length_set, List.length_replicate, List.length_take, List.length_drop, List.length_append, List.length_cons, List.length_nil, ofB_length, toB_length]; omega)) ?_
  refine SeqK.q rfl (q_move (v := .pointer _) rfl) ?_
  refine SeqK.q rfl (q_move (v := .int _ _) rfl) ?_
  refine SeqK.q rfl (q_nilCheck rfl) ?_
  refine SeqK.q rfl (q_indexAddrA0 Try.underlying54 (by kernel_rfl) rfl rfl (by omega) (by omega)) ?_
  refine SeqK.q rfl (q_loadN (by kernel_rfl) rfl (by exact Hp.set_self) (by simp only [nums_length, List.length_set, List.length_replicate, List.length_take, List.length_drop, List.length_append, List.length_cons, List.length_nil, ofB_length, toB_length]; omega)) ?_
  refine SeqK.q rfl (q_xor rfl rfl) ?_
  refine SeqK.q rfl (o_call rfl Try.func78 rfl rfl (rotl_con _ _)) ?_
  refine SeqK.q rfl (q_nilCheck rfl) ?_
  refine SeqK.done ?_
  refine OpsW.q rfl (q_indexAddrA0 Try.underlying54 (by kernel_rfl) rfl rfl (by omega) (by omega)) ?_
  refine OpsW.s (o_storeN1 (by kernel_rfl) rfl rfl (by simp only [nums_length, List.length_set, List.length_replicate, List.length_take, List.length_drop, List.length_append, List.length_cons, List.length_nil, ofB_length, toB_length]; omega)) ?_
  refine OpsW.nil ?_
  refine SeqP.go ?_
  refine AW.seq ?_
  refine AW.drawK [] 12 rfl (by kernel_rfl) ?_
  refine SeqK.q rfl (q_move (v := .pointer _) rfl) ?_
  refine SeqK.q rfl (q_move (v := .int _ _) rfl) ?_
  refine SeqK.q rfl (q_nilCheck rfl) ?_
  refine SeqK.q rfl (q_indexAddrA0 Try.underlying54 (by kernel_rfl) rfl rfl (by omega) (by omega)) ?_
  refine SeqK.q rfl (q_loadN (by kernel_rfl) rfl (by exact Hp.set_self) (by simp only [nums_length, List.length_set, List.length_replicate, List.length_take, List.length_drop, List.length_append, List.length_cons, List.length_nil, ofB_length, toB_length]; omega)) ?_
  refine SeqK.q rfl (q_move (v := .pointer _) rfl) ?_
  refine SeqK.q rfl (q_move (v := .int _ _) rfl) ?_
  refine SeqK.q rfl (q_nilCheck rfl) ?_
  refine SeqK.q rfl (q_indexAddrA0 Try.underlying54 (by kernel_rfl) rfl rfl (by omega) (by omega)) ?_
  refine SeqK.q rfl (q_loadN (by kernel_rfl) rfl (by exact Hp.set_self) (by simp only [nums_length, List.length_set, List.length_replicate, List.length_take, List.length_drop, List.length_append, List.length_cons, List.length_nil, ofB_length, toB_length]; omega)) ?_
  refine SeqK.q rfl (q_add rfl rfl) ?_
  refine SeqK.q rfl (q_nilCheck rfl) ?_
  refine SeqK.done ?_
  refine OpsW.q rfl (q_indexAddrA0 Try.underlying54 (by kernel_rfl) rfl rfl (by omega) (by omega)) ?_
  refine OpsW.s (o_storeN1 (by kernel_rfl) rfl rfl (by simp only [nums_length, List.length_set, List.length_replicate, List.length_take, List.length_drop, List.length_append, List.length_cons, List.length_nil, ofB_length, toB_length]; omega)) ?_
  refine OpsW.nil ?_
  refine SeqP.go ?_
  refine AW.seq ?_
  refine AW.drawK [] 15 rfl (by kernel_rfl) ?_
  refine SeqK.q rfl (q_move (v := .pointer _) rfl) ?_
  refine SeqK.q rfl (q_move (v := .int _ _) rfl) ?_
  refine SeqK.q rfl (q_move (v := .pointer _) rfl) ?_
  refine SeqK.q rfl (q_move (v := .int _ _) rfl) ?_
  refine SeqK.q rfl (q_nilCheck rfl) ?_
  refine SeqK.q rfl (q_indexAddrA0 Try.underlying54 (by kernel_rfl) rfl rfl (by omega) (by omega)) ?_
  refine SeqK.q rfl (q_loadN (by kernel_rfl) rfl (by exact Hp.set_self) (by simp only [nums_length, List.length_set, List.length_replicate, List.length_take, List.length_drop, List.length_append, List.length_cons, List.length_nil, ofB_length, toB_length]; omega)) ?_
  refine SeqK.q rfl (q_move (v := .pointer _) rfl) ?_
  refine SeqK.q rfl (q_move (v := .int _ _) rfl) ?_
  refine SeqK.q rfl (q_nilCheck rfl) ?_
  refine SeqK.q rfl (q_indexAddrA0 Try.underlying54 (by kernel_rfl) rfl rfl (by omega) (by omega)) ?_
  refine SeqK.q rfl (q_loadN (by kernel_rfl) rfl (by exact Hp.set_self) (by simp only [nums_length, List.length_set, List.length_replicate, List.length_take, List.length_drop, List.length_append, List.length_cons, List.length_nil, ofB_length, toB_length]; omega)) ?_
  refine SeqK.q rfl (q_xor rfl rfl) ?_
  refine SeqK.q rfl (o_call rfl Try.func78 rfl rfl (rotl_con _ _)) ?_
  refine SeqK.q rfl (q_nilCheck rfl) ?_
  refine SeqK.done ?_
  refine OpsW.q rfl (q_indexAddrA0 Try.underlying54 (by kernel_rfl) rfl rfl (by omega) (by omega)) ?_
  refine OpsW.s (o_storeN1 (by kernel_rfl) rfl rfl (by simp only [nums_length, List.length_set, List.length_replicate, List.length_take, List.length_drop, List.length_append, List.length_cons, List.length_nil, ofB_length, toB_length]; omega)) ?_
  refine OpsW.nil ?_
  refine SeqP.go ?_
  refine AW.seq ?_
  refine AW.drawK [] 12 rfl (by kernel_rfl) ?_
  refine SeqK.q rfl (q_move (v := .pointer _) rfl) ?_
  refine SeqK.q rfl (q_move (v := .int _ _) rfl) ?_
  refine SeqK.q rfl (q_nilCheck rfl) ?_
  refine SeqK.q rfl (q_indexAddrA0 Try.underlying54 (by kernel_rfl) rfl rfl (by omega) (by omega)) ?_
  refine SeqK.q rfl (q_loadN (by kernel_rfl) rfl (by exact Hp.set_self) (by simp only [nums_length, List.length_set, List.length_replicate, List.length_take, List.length_drop, List.length_append, List.length_cons, List.length_nil, ofB_length, toB_length]; omega)) ?_
  refine SeqK.q rfl (q_move (v := .pointer _) rfl) ?_
  refine SeqK.q rfl (q_move (v := .int _ _) rfl) ?_
  refine SeqK.q rfl (q_nilCheck rfl) ?_
  refine SeqK.q rfl (q_indexAddrA0 Try.underlying54 (by kernel_rfl) rfl rfl (by omega) (by omega)) ?_
  refine SeqK.q rfl (q_loadN (by kernel_rfl) rfl (by exact Hp.set_self) (by simp only [nums_length, List.length_set, List.length_replicate, List.length_take, List.length_drop, List.length_append, List.length_cons, List.length_nil, ofB_length, toB_length]; omega)) ?_
  refine SeqK.q rfl (q_add rfl rfl) ?_
  refine SeqK.q rfl (q_nilCheck rfl) ?_
  refine SeqK.done ?_
  refine OpsW.q rfl (q_indexAddrA0 Try.underlying54 (by kernel_rfl) rfl rfl (by omega) (by omega)) ?_
  refine OpsW.s (o_storeN1 (by kernel_rfl) rfl rfl (by simp only [nums_length, List.length_set, List.length_replicate, List.length_take, List.length_drop, List.length_append, List.length_cons, List.length_nil, ofB_length, toB_length]; omega)) ?_
  refine OpsW.nil ?_
  refine SeqP.go ?_
  refine AW.seq ?_
  refine AW.drawK [] 15 rfl (by kernel_rfl) ?_
  refine SeqK.q rfl (q_move (v := .pointer _) rfl) ?_
  refine SeqK.q rfl (q_move (v := .int _ _) rfl) ?_
  refine SeqK.q rfl (q_move (v := .pointer _) rfl) ?_
  refine SeqK.q rfl (q_move (v := .int _ _) rfl) ?_
  refine SeqK.q rfl (q_nilCheck rfl) ?_
  refine SeqK.q rfl (q_indexAddrA0 Try.underlying54 (by kernel_rfl) rfl rfl (by omega) (by omega)) ?_
  refine SeqK.q rfl (q_loadN (by kernel_rfl) rfl (by exact Hp.set_self) (by simp only [nums_length, List.length_set, List.length_replicate, List.length_take, List.length_drop, List.length_append, List.length_cons, List.length_nil, ofB_length, toB_length]; omega)) ?_
  refine SeqK.q rfl (q_move (v := .pointer _) rfl) ?_
  refine SeqK.q rfl (q_move (v := .int _ _) rfl) ?_
  refine SeqK.q rfl (q_nilCheck rfl) ?_
  refine SeqK.q rfl (q_indexAddrA0 Try.underlying54 (by kernel_rfl) rfl rfl (by omega) (by omega)) ?_
  refine SeqK.q rfl (q_loadN (by kernel_rfl) rfl (by exact Hp.set_self) (by simp only [nums_length, List.length_set, List.length_replicate, List.length_take, List.length_drop, List.length_append, List.length_cons, List.length_nil, ofB_length, toB_length]; omega)) ?_
  refine SeqK.q rfl (q_xor rfl rfl) ?_
  refine SeqK.q rfl (o_call rfl Try.func78 rfl rfl (rotl_con _ _)) ?_
  refine SeqK.q rfl (q_nilCheck rfl) ?_
  refine SeqK.done ?_
  refine OpsW.q rfl (q_indexAddrA0 Try.underlying54 (by kernel_rfl) rfl rfl (by omega) (by omega)) ?_
  refine OpsW.s (o_storeN1 (by kernel_rfl) rfl rfl (by simp only [nums_length, List.length_set, List.length_replicate, List.length_take, List.length_drop, List.length_append, List.length_cons, List.length_nil, ofB_length, toB_length]; omega)) ?_
  refine OpsW.nil ?_
  refine SeqP.go ?_
  refine AW.seq ?_
  refine AW.drawK [] 12 rfl (by kernel_rfl) ?_
  refine SeqK.q rfl (q_move (v := .pointer _) rfl) ?_
  refine SeqK.q rfl (q_move (v := .int _ _) rfl) ?_
  refine SeqK.q rfl (q_nilCheck rfl) ?_
  refine SeqK.q rfl (q_indexAddrA0 Try.underlying54 (by kernel_rfl) rfl rfl (by omega) (by omega)) ?_
  refine SeqK.q rfl (q_loadN (by kernel_rfl) rfl (by exact Hp.set_self) (by simp only [nums_length, List.length_set, List.length_replicate, List.length_take, List.length_drop, List.length_append, List.length_cons, List.length_nil, ofB_length, toB_length]; omega)) ?_
  refine SeqK.q rfl (q_move (v := .pointer _) rfl) ?_
  refine SeqK.q rfl (q_move (v := .int _ _) rfl) ?_
  refine SeqK.q rfl (q_nilCheck rfl) ?_
  refine SeqK.q rfl (q_indexAddrA0 Try.underlying54 (by kernel_rfl) rfl rfl (by omega) (by omega)) ?_
  refine SeqK.q rfl (q_loadN (by kernel_rfl) rfl (by exact Hp.set_self) (by simp only [nums_length, List.length_set, List.length_replicate, List.length_take, List.length_drop, List.length_append, List.length_cons, List.length_nil, ofB_length, toB_length]; omega)) ?_
  refine SeqK.q rfl (q_add rfl rfl) ?_
  refine SeqK.q rfl (q_nilCheck rfl) ?_
  refine SeqK.done ?_
  refine OpsW.q rfl (q_indexAddrA0 Try.underlying54 (by kernel_rfl) rfl rfl (by omega) (by omega)) ?_
  refine OpsW.s (o_storeN1 (by kernel_rfl) rfl rfl (by simp only [nums_length, List.length_set, List.length_replicate, List.length_take, List.length_drop, List.length_append, List.length_cons, List.length_nil, ofB_length, toB_length]; omega)) ?_
  refine OpsW.nil ?_
  refine SeqP.go ?_
  refine AW.drawK [] 15 rfl (by kernel_rfl) ?_
  refine SeqK.q rfl (q_move (v := .pointer _) rfl) ?_
  refine SeqK.q rfl (q_move (v := .int _ _) rfl) ?_
  refine SeqK.q rfl (q_move (v := .pointer _) rfl) ?_
  refine SeqK.q rfl (q_move (v := .int _ _) rfl) ?_
  refine SeqK.q rfl (q_nilCheck rfl) ?_
  refine SeqK.q rfl (q_indexAddrA0 Try.underlying54 (by kernel_rfl) rfl rfl (by omega) (by omega)) ?_
  refine SeqK.q rfl (q_loadN (by kernel_rfl) rfl (by exact Hp.set_self) (by simp only [nums_length, List.length_set, List.length_replicate, List.length_take, List.length_drop, List.length_append, List.length_cons, List.length_nil, ofB_length, toB_length]; omega)) ?_
  refine SeqK.q rfl (q_move (v := .pointer _) rfl) ?_
  refine SeqK.q rfl (q_move (v := .int _ _) rfl) ?_
  refine SeqK.q rfl (q_nilCheck rfl) ?_
  refine SeqK.q rfl (q_indexAddrA0 Try.underlying54 (by kernel_rfl) rfl rfl (by omega) (by omega)) ?_
  refine SeqK.q rfl (q_loadN (by kernel_rfl) rfl (by exact Hp.set_self) (by simp only [nums_length, List.length_set, List.length_replicate, List.length_take, List.length_drop, List.length_append, List.length_cons, List.length_nil, ofB_length, toB_length]; omega)) ?_
  refine SeqK.q rfl (q_xor rfl rfl) ?_
  refine SeqK.q rfl (o_call rfl Try.func78 rfl rfl (rotl_con _ _)) ?_
  refine SeqK.q rfl (q_nilCheck rfl) ?_
  refine SeqK.done ?_
  refine OpsW.q rfl (q_indexAddrA0 Try.underlying54 (by kernel_rfl) rfl rfl (by omega) (by omega)) ?_
  refine OpsW.s (o_storeN1 (by kernel_rfl) rfl rfl (by simp only [nums_length, List.length_set, List.length_replicate, List.length_take, List.length_drop, List.length_append, List.length_cons, List.length_nil, ofB_length, toB_length]; omega)) ?_
  refine OpsW.nil ?_
  refine RetP.end0 (H' := _) rfl (by exact (Hp.le_refl _)) ?_
  exact ⟨rfl, by unfold quarter; rfl⟩
theorem wrong_con (key nonce : List UInt8) (n : Int) : Con Try.prog w0 35 #[S key, S nonce, .int .i64 n] H (fun v H' => v = .int .i64 (wrong key nonce n) ∧ H' = H) := by
  refine Con.intro Try.func35 rfl rfl ?_
  refine AW.seq ?_
  refine AW.region ?_
  refine OpsW.q rfl (q_assign (v := .int _ _) rfl) ?_
  refine OpsW.nil ?_
  refine SeqP.go ?_
  refine AW.seq ?_
  refine AW.block ?_
  refine AW.seq ?_
  refine AW.region ?_
  refine OpsW.q rfl (q_move (v := S _) rfl) ?_
  refine OpsW.q rfl (q_lenS Try.underlying9 rfl) ?_
  refine OpsW.q rfl (q_neq rfl rfl) ?_
  refine OpsW.qb rfl (q_move (v := .bool _) rfl) ?_
  intro b11 eb11
  refine OpsW.g rfl rfl rfl (fun hB => by simp only [Bool.and_eq_true, beq_iff_eq] at hB; obtain rfl := hB; exact (q_move (v := S _) rfl)) ?_
  refine OpsW.g rfl rfl rfl (fun hB => by simp only [Bool.and_eq_true, beq_iff_eq] at hB; obtain rfl := hB; exact (q_lenS Try.underlying9 rfl)) ?_
  refine OpsW.g rfl rfl rfl (fun hB => by simp only [Bool.and_eq_true, beq_iff_eq] at hB; obtain rfl := hB; exact (q_neq rfl rfl)) ?_
  refine OpsW.q rfl (q_or2 rfl rfl rfl) ?_
  refine OpsW.q rfl (q_assign (v := .bool _) rfl) ?_
  refine OpsW.nil ?_
  refine SeqP.go ?_
  refine AW.cond rfl (fun h0 => ?_) (fun h0 => ?_)
  ·
    try simp only [eb11, decide_eq_true_eq, decide_eq_false_iff_not, Bool.or_eq_true, Bool.and_eq_true, Bool.or_eq_false_iff, Bool.and_eq_false_imp, Bool.not_eq_true', Bool.not_eq_false', ne_eq, Decidable.not_not, Int.not_lt, Int.not_le, Bool.not_eq_true, Bool.not_eq_false] at h0
    refine AW.seq ?_
    refine AW.region ?_
    refine OpsW.q rfl (q_assign (v := .int _ _) rfl) ?_
    refine OpsW.nil ?_
    refine SeqP.go ?_
    refine AW.ret ?_
    refine BlockP.ret ?_
    refine SeqP.ret ?_
    refine RetP.mk1 (H' := H) (v1 := .int _ _) rfl rfl  (by exact (Hp.le_refl _)) ?_
    refine ⟨?_, rfl⟩
    unfold wrong; simp_all; try omega
  try simp only [eb11, decide_eq_true_eq, decide_eq_false_iff_not, Bool.or_eq_true, Bool.and_eq_true, Bool.or_eq_false_iff, Bool.and_eq_false_imp, Bool.not_eq_true', Bool.not_eq_false', ne_eq, Decidable.not_not, Int.not_lt, Int.not_le, Bool.not_eq_true, Bool.not_eq_false] at h0
  refine AW.seq ?_
  refine AW.region ?_
  refine OpsW.q rfl (q_move (v := .int _ _) rfl) ?_
  refine OpsW.q rfl (q_lss rfl rfl) ?_
  refine OpsW.qb rfl (q_move (v := .bool _) rfl) ?_
  intro b19 eb19
  refine OpsW.g rfl rfl rfl (fun hB => by simp only [Bool.and_eq_true, beq_iff_eq] at hB; obtain rfl := hB; exact (q_move (v := .int _ _) rfl)) ?_
  refine OpsW.g rfl rfl rfl (fun hB => by simp only [Bool.and_eq_true, beq_iff_eq] at hB; obtain rfl := hB; exact (q_gtr rfl rfl)) ?_
  refine OpsW.q rfl (q_or2 rfl rfl rfl) ?_
  refine OpsW.q rfl (q_assign (v := .bool _) rfl) ?_
  refine OpsW.nil ?_
  refine SeqP.go ?_
  refine AW.cond rfl (fun h1 => ?_) (fun h1 => ?_)
  ·
    try simp only [eb11, eb19, decide_eq_true_eq, decide_eq_false_iff_not, Bool.or_eq_true, Bool.and_eq_true, Bool.or_eq_false_iff, Bool.and_eq_false_imp, Bool.not_eq_true', Bool.not_eq_false', ne_eq, Decidable.not_not, Int.not_lt, Int.not_le, Bool.not_eq_true, Bool.not_eq_false] at h1
    refine AW.seq ?_
    refine AW.region ?_
    refine OpsW.q rfl (q_assign (v := .int _ _) rfl) ?_
    refine OpsW.nil ?_
    refine SeqP.go ?_
    refine AW.ret ?_
    refine BlockP.ret ?_
    refine SeqP.ret ?_
    refine RetP.mk1 (H' := H) (v1 := .int _ _) rfl rfl  (by exact (Hp.le_refl _)) ?_
    refine ⟨?_, rfl⟩
    unfold wrong; simp_all; try omega
  try simp only [eb11, eb19, decide_eq_true_eq, decide_eq_false_iff_not, Bool.or_eq_true, Bool.and_eq_true, Bool.or_eq_false_iff, Bool.and_eq_false_imp, Bool.not_eq_true', Bool.not_eq_false', ne_eq, Decidable.not_not, Int.not_lt, Int.not_le, Bool.not_eq_true, Bool.not_eq_false] at h1
  refine AW.skip ?_
  refine BlockP.go ?_
  refine SeqP.go ?_
  refine AW.seq ?_
  refine AW.region ?_
  refine OpsW.q rfl (q_assign (v := .int _ _) rfl) ?_
  refine OpsW.nil ?_
  refine SeqP.go ?_
  refine AW.ret ?_
  refine RetP.mk1 (H' := H) (v1 := .int _ _) rfl rfl  (by exact (Hp.le_refl _)) ?_
  refine ⟨?_, rfl⟩
  unfold wrong; simp_all; try omega
theorem started_con (key nonce : List UInt8) (n : Int) (hk : key.length = 32) (hn : nonce.length = 12) : Con Try.prog w0 36 #[S key, S nonce, .int .i64 n] H
      (fun v H' => v = .agg (nums .u32 (started key nonce n)).toArray ∧ H' = H) := by
  refine Con.intro Try.func36 rfl rfl ?_
  refine AW.seq ?_
  refine AW.region ?_
  refine OpsW.m rfl (o_allocN (k := .u32) (m := 16) (by kernel_rfl)) ?_
  rintro _ _ ⟨b6, hb6, rfl, rfl⟩
  refine OpsW.nil ?_
  refine SeqP.go ?_
  refine AW.seq ?_
  refine AW.region ?_
  refine OpsW.q rfl (q_build (cells := (nums .u32 first4).toArray) rfl (by kernel_rfl)) ?_
  refine OpsW.m rfl (o_allocN (k := .u32) (m := 16) (by kernel_rfl)) ?_
  rintro _ _ ⟨b7, hb7, rfl, rfl⟩
  obtain ⟨hb7, n7_6⟩ := Hp.none_set hb7
  refine OpsW.s (o_storeA0 (n := 16) (k := .u32) (by kernel_rfl) rfl rfl (by rfl) (by rfl)) ?_
  refine OpsW.nil ?_
  refine SeqP.go ?_
  refine AW.seq ?_
  refine AW.seq ?_
  refine AW.region ?_
  refine OpsW.q rfl (q_move (v := .int _ _) rfl) ?_
  refine OpsW.nil ?_
  refine SeqP.go ?_
  refine AW.block ?_
  refine AW.loop (fun m e H' => ∃ (i : Nat) (e0 : Env), m = 8 - i ∧ (i ≤ 8) ∧ e = upds e0 [(0, S key), (1, S nonce), (2, .int .i64 n), (6, .pointer (some ⟨b6, 0, none⟩)), (7, .pointer (some ⟨b7, 0, none⟩)), (11, .int .i64 (i : Int))] ∧ H' = (H.set b6 ⟨nums .u32 (List.replicate 16 0), 16, 54⟩).set b7 ⟨nums .u32 (started1 key i), 16, 54⟩) _ ⟨0, _, rfl, (by omega), Slots.eq ⟨(by rfl), (by rfl), (by rfl), (by rfl), (by rfl), (by rfl),  trivial⟩, (by simp only [started1, fillK_zero] <;> rfl)⟩ ?_
  rintro m _ _ ⟨i, e0, rfl, hf, rfl, rfl⟩
  have hl1 := started1_length key i
  refine AW.seq ?_
  refine AW.region ?_
  refine OpsW.q rfl (q_lss rfl rfl) ?_
  refine OpsW.nil ?_
  refine SeqP.go ?_
  refine AW.seq ?_
  refine AW.cond2 rfl (fun h0 => ?_) (fun h0 => ?_)
  ·
    try simp only [decide_eq_true_eq, decide_eq_false_iff_not, Bool.or_eq_true, Bool.and_eq_true, Bool.or_eq_false_iff, Bool.and_eq_false_imp, Bool.not_eq_true', Bool.not_eq_false', ne_eq, Decidable.not_not, Int.not_lt, Int.not_le, Bool.not_eq_true, Bool.not_eq_false] at h0
    refine AW.exit ?_
    refine SeqP.exit ?_
    refine LoopP.exit ?_
    obtain rfl : i = 8 := by omega
    refine BlockP.here ?_
    refine SeqP.go ?_
    refine AW.seq ?_
    refine AW.region ?_
    refine OpsW.q rfl (q_move (v := .int _ _) rfl) ?_
    refine OpsW.q rfl (q_convInt rfl Try.underlying52 rfl) ?_
    refine OpsW.q rfl (q_indexAddrA0 Try.underlying54 (by kernel_rfl) rfl rfl (by omega) (by omega)) ?_
    refine OpsW.s (o_storeN1 (by kernel_rfl) rfl rfl (by omega)) ?_
    refine OpsW.nil ?_
    refine SeqP.go ?_
    refine AW.seq ?_
    refine AW.seq ?_
    refine AW.region ?_
    refine OpsW.q rfl (q_move (v := .int _ _) rfl) ?_
    refine OpsW.nil ?_
    refine SeqP.go ?_
    refine AW.block ?_
    refine AW.loop (fun m e H' => ∃ (i : Nat) (e0 : Env), m = 3 - i ∧ (i ≤ 3) ∧ e = upds e0 [(1, S nonce), (6, .pointer (some ⟨b6, 0, none⟩)), (7, .pointer (some ⟨b7, 0, none⟩)), (26, .int .i64 (i : Int))] ∧ H' = (H.set b6 ⟨nums .u32 (List.replicate 16 0), 16, 54⟩).set b7 ⟨nums .u32 (started2 key nonce n i), 16, 54⟩) _ ⟨0, _, rfl, (by omega), Slots.eq ⟨(by rfl), (by rfl), (by rfl), (by rfl),  trivial⟩, (by simp only [started2, fillK_zero] <;> rfl)⟩ ?_
    rintro m _ _ ⟨i, e0, rfl, hf, rfl, rfl⟩
    have hl2 := started2_length key nonce n i
    refine AW.seq ?_
    refine AW.region ?_
    refine OpsW.q rfl (q_lss rfl rfl) ?_
    refine OpsW.nil ?_
    refine SeqP.go ?_
    refine AW.seq ?_
    refine AW.cond2 rfl (fun h1 => ?_) (fun h1 => ?_)
    ·
      try simp only [decide_eq_true_eq, decide_eq_false_iff_not, Bool.or_eq_true, Bool.and_eq_true, Bool.or_eq_false_iff, Bool.and_eq_false_imp, Bool.not_eq_true', Bool.not_eq_false', ne_eq, Decidable.not_not, Int.not_lt, Int.not_le, Bool.not_eq_true, Bool.not_eq_false] at h1
      refine AW.exit ?_
      refine SeqP.exit ?_
      refine LoopP.exit ?_
      obtain rfl : i = 3 := by omega
      refine BlockP.here ?_
      refine SeqP.go ?_
      refine AW.seq ?_
      refine AW.region ?_
      refine OpsW.q rfl (q_loadAN (n := 16) (k := .u32) (by kernel_rfl) rfl (by exact Hp.set_self) (by with_reducible assumption)) ?_
      refine OpsW.s (o_storeA02 (n := 16) (k := .u32) (by kernel_rfl) rfl rfl (by with_reducible assumption) (by rfl) (by exact Ne.symm (by assumption))) ?_
      refine OpsW.nil ?_
      refine SeqP.go ?_
      refine AW.ret ?_
      refine RetP.mkc (m := 16) (H' := H) rfl rfl (by exact (Hp.set_ne (by exact Ne.symm (by assumption))).trans (Hp.set_self)) (by simp only [nums_length, List.length_set, List.length_replicate, List.length_take, List.length_drop, List.length_append, List.length_cons, List.length_nil, ofB_length, toB_length]; omega) (by kernel_rfl) (by exact (Hp.le_set (by first | assumption | exact Hp.set_none (by assumption) (by first | assumption | exact Ne.symm (by assumption)) | exact Hp.set_none (Hp.set_none (by assumption) (by first | assumption | exact Ne.symm (by assumption))) (by first | assumption | exact Ne.symm (by assumption))) (Hp.le_set (by first | assumption | exact Hp.set_none (by assumption) (by first | assumption | exact Ne.symm (by assumption)) | exact Hp.set_none (Hp.set_none (by assumption) (by first | assumption | exact Ne.symm (by assumption))) (by first | assumption | exact Ne.symm (by assumption))) (Hp.le_refl _)))) ?_
      exact ⟨by unfold started; rfl, rfl⟩
    try simp only [decide_eq_true_eq, decide_eq_false_iff_not, Bool.or_eq_true, Bool.and_eq_true, Bool.or_eq_false_iff, Bool.and_eq_false_imp, Bool.not_eq_true', Bool.not_eq_false', ne_eq, Decidable.not_not, Int.not_lt, Int.not_le, Bool.not_eq_true, Bool.not_eq_false] at h1
    refine AW.skip ?_
    refine SeqP.go ?_
    refine AW.seq ?_
    refine AW.block ?_
    refine AW.seq ?_
    refine AW.region ?_
    refine OpsW.q rfl (q_move (v := .int _ _) rfl) ?_
    refine OpsW.q rfl (q_assign (v := .int _ _) rfl) ?_
    refine OpsW.nil ?_
    refine SeqP.go ?_
    refine AW.region ?_
    refine OpsW.q rfl (q_move (v := .int _ _) rfl) ?_
    refine OpsW.q rfl (q_addI rfl rfl (by omega)) ?_
    refine OpsW.q rfl (q_move (v := S _) rfl) ?_
    refine OpsW.q rfl (q_move (v := .int _ _) rfl) ?_
    refine OpsW.q rfl (q_mulI rfl rfl (by omega)) ?_
    refine OpsW.q rfl (q_sliceS_lo Try.underlying9 rfl rfl (by omega) (by omega)) ?_
    refine OpsW.x rfl (o_call rfl Try.func58 rfl rfl (number_con _ (by simp only [nums_length, List.length_set, List.length_replicate, List.length_take, List.length_drop, List.length_append, List.length_cons, List.length_nil, ofB_length, toB_length]; omega))) ?_
    refine OpsW.q rfl (q_indexAddrA0 Try.underlying54 (by kernel_rfl) rfl rfl (by omega) (by omega)) ?_
    refine OpsW.s (o_storeN1 (by kernel_rfl) rfl rfl (by omega)) ?_
    refine OpsW.nil ?_
    refine BlockP.go ?_
    refine SeqP.go ?_
    refine AW.region ?_
    refine OpsW.q rfl (q_addI rfl rfl (by omega)) ?_
    refine OpsW.q rfl (q_move (v := .int _ _) rfl) ?_
    refine OpsW.nil ?_
    exact LoopP.go _ (by omega) ⟨i + 1, _, rfl, (by omega), Slots.eq ⟨(by rfl), (by rfl), (by rfl), (by rfl),  trivial⟩, (by simp only [show (13 + (i : Int)).toNat = 13 + i from by omega, show (4 * (i : Int)).toNat = 4 * i from by omega, started2, fillK_succ])⟩
  try simp only [decide_eq_true_eq, decide_eq_false_iff_not, Bool.or_eq_true, Bool.and_eq_true, Bool.or_eq_false_iff, Bool.and_eq_false_imp, Bool.not_eq_true', Bool.not_eq_false', ne_eq, Decidable.not_not, Int.not_lt, Int.not_le, Bool.not_eq_true, Bool.not_eq_false] at h0
  refine AW.skip ?_
  refine SeqP.go ?_
  refine AW.seq ?_
  refine AW.block ?_
  refine AW.seq ?_
  refine AW.region ?_
  refine OpsW.q rfl (q_move (v := .int _ _) rfl) ?_
  refine OpsW.q rfl (q_assign (v := .int _ _) rfl) ?_
  refine OpsW.nil ?_
  refine SeqP.go ?_
  refine AW.region ?_
  refine OpsW.q rfl (q_move (v := .int _ _) rfl) ?_
  refine OpsW.q rfl (q_addI rfl rfl (by omega)) ?_
  refine OpsW.q rfl (q_move (v := S _) rfl) ?_
  refine OpsW.q rfl (q_move (v := .int _ _) rfl) ?_
  refine OpsW.q rfl (q_mulI rfl rfl (by omega)) ?_
  refine OpsW.q rfl (q_sliceS_lo Try.underlying9 rfl rfl (by omega) (by omega)) ?_
  refine OpsW.x rfl (o_call rfl Try.func58 rfl rfl (number_con _ (by simp only [nums_length, List.length_set, List.length_replicate, List.length_take, List.length_drop, List.length_append, List.length_cons, List.length_nil, ofB_length, toB_length]; omega))) ?_
  refine OpsW.q rfl (q_indexAddrA0 Try.underlying54 (by kernel_rfl) rfl rfl (by omega) (by omega)) ?_
  refine OpsW.s (o_storeN1 (by kernel_rfl) rfl rfl (by omega)) ?_
  refine OpsW.nil ?_
  refine BlockP.go ?_
  refine SeqP.go ?_
  refine AW.region ?_
  refine OpsW.q rfl (q_addI rfl rfl (by omega)) ?_
  refine OpsW.q rfl (q_move (v := .int _ _) rfl) ?_
  refine OpsW.nil ?_
  exact LoopP.go _ (by omega) ⟨i + 1, _, rfl, (by omega), Slots.eq ⟨(by rfl), (by rfl), (by rfl), (by rfl), (by rfl), (by rfl),  trivial⟩, (by simp only [show (4 + (i : Int)).toNat = 4 + i from by omega, show (4 * (i : Int)).toNat = 4 * i from by omega, started1, fillK_succ])⟩
theorem stirred_con (xs : List Int) (hl : xs.length = 16) : Con Try.prog w0 37 #[.agg (nums .u32 xs).toArray] H
      (fun v H' => v = .agg (nums .u8 (stirred xs)).toArray ∧ H' = H) := by
  refine Con.intro Try.func37 rfl rfl ?_
  refine AW.seq ?_
  refine AW.region ?_
  refine OpsW.m rfl (o_boxN (k := .u32) rfl) ?_
  rintro _ _ ⟨b1, hb1, rfl, rfl⟩
  refine OpsW.m rfl (o_allocN (k := .u8) (m := 64) (by kernel_rfl)) ?_
  rintro _ _ ⟨b2, hb2, rfl, rfl⟩
  obtain ⟨hb2, n2_1⟩ := Hp.none_set hb2
  refine OpsW.nil ?_
  refine SeqP.go ?_
  refine AW.seq ?_
  refine AW.region ?_
  refine OpsW.q rfl (q_loadAN (n := 16) (k := .u32) (by kernel_rfl) rfl (by exact (Hp.set_ne (by exact Ne.symm (by assumption))).trans (Hp.set_self)) (by with_reducible assumption)) ?_
  refine OpsW.m rfl (o_allocN (k := .u32) (m := 16) (by kernel_rfl)) ?_
  rintro _ _ ⟨b3, hb3, rfl, rfl⟩
  obtain ⟨hb3, n3_2⟩ := Hp.none_set hb3
  obtain ⟨hb3, n3_1⟩ := Hp.none_set hb3
  refine OpsW.s (o_storeA0 (n := 16) (k := .u32) (by kernel_rfl) rfl rfl (by with_reducible assumption) (by rfl)) ?_
  refine OpsW.nil ?_
  refine SeqP.go ?_
  refine AW.seq ?_
  refine AW.seq ?_
  refine AW.region ?_
  refine OpsW.q rfl (q_move (v := .int _ _) rfl) ?_
  refine OpsW.nil ?_
  refine SeqP.go ?_
  refine AW.block ?_
  refine AW.loop (fun m e H' => ∃ (i : Nat) (e0 : Env), m = 10 - i ∧ (i ≤ 10) ∧ e = upds e0 [(1, .pointer (some ⟨b1, 0, none⟩)), (2, .pointer (some ⟨b2, 0, none⟩)), (3, .pointer (some ⟨b3, 0, none⟩)), (9, .int .i64 (i : Int))] ∧ H' = (((H.set b1 ⟨nums .u32 xs, xs.length, 54⟩).set b2 ⟨nums .u8 (List.replicate 64 0), 64, 56⟩).set b3 ⟨nums .u32 (roundK xs i), 16, 54⟩)) _ ⟨0, _, rfl, (by omega), Slots.eq ⟨(by rfl), (by rfl), (by rfl), (by rfl),  trivial⟩, (by rw [roundK_zero])⟩ ?_
  rintro m _ _ ⟨i, e0, rfl, hf, rfl, rfl⟩
  have hr := roundK_length xs hl i
  refine AW.seq ?_
  refine AW.region ?_
  refine OpsW.q rfl (q_lss rfl rfl) ?_
  refine OpsW.nil ?_
  refine SeqP.go ?_
  refine AW.seq ?_
  refine AW.cond2 rfl (fun h0 => ?_) (fun h0 => ?_)
  ·
    try simp only [decide_eq_true_eq, decide_eq_false_iff_not, Bool.or_eq_true, Bool.and_eq_true, Bool.or_eq_false_iff, Bool.and_eq_false_imp, Bool.not_eq_true', Bool.not_eq_false', ne_eq, Decidable.not_not, Int.not_lt, Int.not_le, Bool.not_eq_true, Bool.not_eq_false] at h0
    refine AW.exit ?_
    refine SeqP.exit ?_
    refine LoopP.exit ?_
    obtain rfl : i = 10 := by omega
    refine BlockP.here ?_
    refine SeqP.go ?_
    refine AW.seq ?_
    refine AW.region ?_
    refine OpsW.m rfl (o_allocN (k := .u8) (m := 64) (by kernel_rfl)) ?_
    rintro _ _ ⟨b6, hb6, rfl, rfl⟩
    obtain ⟨hb6, n6_3⟩ := Hp.none_set hb6
    obtain ⟨hb6, n6_2⟩ := Hp.none_set hb6
    obtain ⟨hb6, n6_1⟩ := Hp.none_set hb6
    refine OpsW.nil ?_
    refine SeqP.go ?_
    refine AW.seq ?_
    refine AW.seq ?_
    refine AW.region ?_
    refine OpsW.q rfl (q_move (v := .int _ _) rfl) ?_
    refine OpsW.nil ?_
    refine SeqP.go ?_
    refine AW.block ?_
    refine AW.loop (fun m e H' => ∃ (j : Nat) (e0 : Env), m = 64 - j ∧ (j ≤ 64) ∧ e = upds e0 [(1, .pointer (some ⟨b1, 0, none⟩)), (2, .pointer (some ⟨b2, 0, none⟩)), (3, .pointer (some ⟨b3, 0, none⟩)), (6, .pointer (some ⟨b6, 0, none⟩)), (42, .int .i64 (j : Int))] ∧ H' = (((H.set b1 ⟨nums .u32 xs, xs.length, 54⟩).set b2 ⟨nums .u8 (List.replicate 64 0), 64, 56⟩).set b3 ⟨nums .u32 (roundK xs 10), 16, 54⟩).set b6 ⟨nums .u8 (outK xs j), 64, 56⟩) _ ⟨0, _, rfl, (by omega), Slots.eq ⟨(by rfl), (by rfl), (by rfl), (by rfl), (by rfl),  trivial⟩, (by simp only [outK, fillK_zero] <;> rfl)⟩ ?_
    rintro m _ _ ⟨j, e0, rfl, hf, rfl, rfl⟩
    have ho := outK_length xs j
    refine AW.seq ?_
    refine AW.region ?_
    refine OpsW.q rfl (q_lss rfl rfl) ?_
    refine OpsW.nil ?_
    refine SeqP.go ?_
    refine AW.seq ?_
    refine AW.cond2 rfl (fun h3 => ?_) (fun h3 => ?_)
    ·
      try simp only [decide_eq_true_eq, decide_eq_false_iff_not, Bool.or_eq_true, Bool.and_eq_true, Bool.or_eq_false_iff, Bool.and_eq_false_imp, Bool.not_eq_true', Bool.not_eq_false', ne_eq, Decidable.not_not, Int.not_lt, Int.not_le, Bool.not_eq_true, Bool.not_eq_false] at h3
      refine AW.exit ?_
      refine SeqP.exit ?_
      refine LoopP.exit ?_
      obtain rfl : j = 64 := by omega
      refine BlockP.here ?_
      refine SeqP.go ?_
      refine AW.seq ?_
      refine AW.region ?_
      refine OpsW.q rfl (q_loadAN (n := 64) (k := .u8) (by kernel_rfl) rfl (by exact Hp.set_self) (by with_reducible assumption)) ?_
      refine OpsW.s (o_storeA03 (n := 64) (k := .u8) (by kernel_rfl) rfl rfl (by with_reducible assumption) (by rfl) (by exact Ne.symm (by assumption)) (by exact Ne.symm (by assumption))) ?_
      refine OpsW.nil ?_
      refine SeqP.go ?_
      refine AW.ret ?_
      refine RetP.mkc (m := 64) (H' := H) rfl rfl (by exact (Hp.set_ne (by exact Ne.symm (by assumption))).trans ((Hp.set_ne (by exact Ne.symm (by assumption))).trans (Hp.set_self))) (by simp only [nums_length, List.length_set, List.length_replicate, List.length_take, List.length_drop, List.length_append, List.length_cons, List.length_nil, ofB_length, toB_length]; omega) (by kernel_rfl) (by exact (Hp.le_set (by first | assumption | exact Hp.set_none (by assumption) (by first | assumption | exact Ne.symm (by assumption)) | exact Hp.set_none (Hp.set_none (by assumption) (by first | assumption | exact Ne.symm (by assumption))) (by first | assumption | exact Ne.symm (by assumption))) (Hp.le_set (by first | assumption | exact Hp.set_none (by assumption) (by first | assumption | exact Ne.symm (by assumption)) | exact Hp.set_none (Hp.set_none (by assumption) (by first | assumption | exact Ne.symm (by assumption))) (by first | assumption | exact Ne.symm (by assumption))) (Hp.le_set (by first | assumption | exact Hp.set_none (by assumption) (by first | assumption | exact Ne.symm (by assumption)) | exact Hp.set_none (Hp.set_none (by assumption) (by first | assumption | exact Ne.symm (by assumption))) (by first | assumption | exact Ne.symm (by assumption))) (Hp.le_set (by first | assumption | exact Hp.set_none (by assumption) (by first | assumption | exact Ne.symm (by assumption)) | exact Hp.set_none (Hp.set_none (by assumption) (by first | assumption | exact Ne.symm (by assumption))) (by first | assumption | exact Ne.symm (by assumption))) (Hp.le_refl _)))))) ?_
      exact ⟨by unfold stirred; rfl, rfl⟩
    try simp only [decide_eq_true_eq, decide_eq_false_iff_not, Bool.or_eq_true, Bool.and_eq_true, Bool.or_eq_false_iff, Bool.and_eq_false_imp, Bool.not_eq_true', Bool.not_eq_false', ne_eq, Decidable.not_not, Int.not_lt, Int.not_le, Bool.not_eq_true, Bool.not_eq_false] at h3
    refine AW.skip ?_
    refine SeqP.go ?_
    refine AW.seq ?_
    refine AW.block ?_
    refine AW.seq ?_
    refine AW.region ?_
    refine OpsW.q rfl (q_move (v := .int _ _) rfl) ?_
    refine OpsW.q rfl (q_assign (v := .int _ _) rfl) ?_
    refine OpsW.nil ?_
    refine SeqP.go ?_
    refine AW.drawK [] 15 rfl (by kernel_rfl) ?_
    refine SeqK.q rfl (q_move (v := .int _ _) rfl) ?_
    refine SeqK.q rfl (q_move (v := .int _ _) rfl) ?_
    refine SeqK.q rfl (q_quoI rfl rfl (by omega)) ?_
    refine SeqK.q rfl (q_indexAddrA0 Try.underlying54 (by kernel_rfl) rfl rfl (by omega) (by omega)) ?_
    refine SeqK.q rfl (q_loadN (by kernel_rfl) rfl (by exact (Hp.set_ne (by exact Ne.symm (by assumption))).trans (Hp.set_self)) (by omega)) ?_
    refine SeqK.q rfl (q_move (v := .int _ _) rfl) ?_
    refine SeqK.q rfl (q_quoI rfl rfl (by omega)) ?_
    refine SeqK.q rfl (q_indexAddrA0 Try.underlying54 (by kernel_rfl) rfl rfl (by omega) (by omega)) ?_
    refine SeqK.q rfl (q_loadN (by kernel_rfl) rfl (by exact (Hp.set_ne (by exact Ne.symm (by assumption))).trans ((Hp.set_ne (by exact Ne.symm (by assumption))).trans ((Hp.set_ne (by exact Ne.symm (by assumption))).trans (Hp.set_self)))) (by omega)) ?_
    refine SeqK.q rfl (q_add rfl rfl) ?_
    refine SeqK.q rfl (q_move (v := .int _ _) rfl) ?_
    refine SeqK.q rfl (q_remI rfl rfl (by omega)) ?_
    refine SeqK.q rfl (q_mulI rfl rfl (by omega)) ?_
    refine SeqK.q rfl (q_shr rfl rfl (by omega)) ?_
    refine SeqK.q rfl (q_convInt rfl Try.underlying5 rfl) ?_
    refine SeqK.done ?_
    refine OpsW.q rfl (q_indexAddrA0 Try.underlying56 (by kernel_rfl) rfl rfl (by omega) (by omega)) ?_
    refine OpsW.s (o_storeN1 (by kernel_rfl) rfl rfl (by omega)) ?_
    refine OpsW.nil ?_
    refine BlockP.go ?_
    refine SeqP.go ?_
    refine AW.region ?_
    refine OpsW.q rfl (q_addI rfl rfl (by omega)) ?_
    refine OpsW.q rfl (q_move (v := .int _ _) rfl) ?_
    refine OpsW.nil ?_
    exact LoopP.go _ (by omega) ⟨j + 1, _, rfl, (by omega), Slots.eq ⟨(by rfl), (by rfl), (by rfl), (by rfl), (by rfl),  trivial⟩, (by simp only [Int.toNat_natCast, show ((j : Int) / 4).toNat = j / 4 from by omega, show (8 * ((j : Int) % 4)).toNat = 8 * (j % 4) from by omega, outK, fillK_succ, Nat.zero_add]; rfl)⟩
  try simp only [decide_eq_true_eq, decide_eq_false_iff_not, Bool.or_eq_true, Bool.and_eq_true, Bool.or_eq_false_iff, Bool.and_eq_false_imp, Bool.not_eq_true', Bool.not_eq_false', ne_eq, Decidable.not_not, Int.not_lt, Int.not_le, Bool.not_eq_true, Bool.not_eq_false] at h0
  refine AW.skip ?_
  refine SeqP.go ?_
  refine AW.seq ?_
  refine AW.block ?_
  refine AW.seq ?_
  refine AW.seq ?_
  refine AW.region ?_
  refine OpsW.q rfl (q_move (v := .int _ _) rfl) ?_
  refine OpsW.nil ?_
  refine SeqP.go ?_
  refine AW.block ?_
  refine AW.loop (fun m e H' => ∃ (j : Nat) (e0 : Env), m = 4 - j ∧ (j ≤ 4) ∧ e = upds e0 [(1, .pointer (some ⟨b1, 0, none⟩)), (2, .pointer (some ⟨b2, 0, none⟩)), (3, .pointer (some ⟨b3, 0, none⟩)), (9, .int .i64 (i : Int)), (11, .int .i64 (j : Int))] ∧ H' = (((H.set b1 ⟨nums .u32 xs, xs.length, 54⟩).set b2 ⟨nums .u8 (List.replicate 64 0), 64, 56⟩).set b3 ⟨nums .u32 (colK (roundK xs i) j), 16, 54⟩)) _ ⟨0, _, rfl, (by omega), Slots.eq ⟨(by rfl), (by rfl), (by rfl), (by rfl), (by rfl),  trivial⟩, (by rw [colK_zero])⟩ ?_
  rintro m _ _ ⟨j, e0, rfl, hf, rfl, rfl⟩
  have hc := colK_length (roundK xs i) hr j
  refine AW.seq ?_
  refine AW.region ?_
  refine OpsW.q rfl (q_lss rfl rfl) ?_
  refine OpsW.nil ?_
  refine SeqP.go ?_
  refine AW.seq ?_
  refine AW.cond2 rfl (fun h1 => ?_) (fun h1 => ?_)
  ·
    try simp only [decide_eq_true_eq, decide_eq_false_iff_not, Bool.or_eq_true, Bool.and_eq_true, Bool.or_eq_false_iff, Bool.and_eq_false_imp, Bool.not_eq_true', Bool.not_eq_false', ne_eq, Decidable.not_not, Int.not_lt, Int.not_le, Bool.not_eq_true, Bool.not_eq_false] at h1
    refine AW.exit ?_
    refine SeqP.exit ?_
    refine LoopP.exit ?_
    obtain rfl : j = 4 := by omega
    refine BlockP.here ?_
    refine SeqP.go ?_
    refine AW.seq ?_
    refine AW.region ?_
    refine OpsW.q rfl (q_move (v := .int _ _) rfl) ?_
    refine OpsW.nil ?_
    refine SeqP.go ?_
    refine AW.block ?_
    refine AW.loop (fun m e H' => ∃ (j : Nat) (e0 : Env), m = 4 - j ∧ (j ≤ 4) ∧ e = upds e0 [(1, .pointer (some ⟨b1, 0, none⟩)), (2, .pointer (some ⟨b2, 0, none⟩)), (3, .pointer (some ⟨b3, 0, none⟩)), (9, .int .i64 (i : Int)), (23, .int .i64 (j : Int))] ∧ H' = (((H.set b1 ⟨nums .u32 xs, xs.length, 54⟩).set b2 ⟨nums .u8 (List.replicate 64 0), 64, 56⟩).set b3 ⟨nums .u32 (diagK (colK (roundK xs i) 4) j), 16, 54⟩)) _ ⟨0, _, rfl, (by omega), Slots.eq ⟨(by rfl), (by rfl), (by rfl), (by rfl), (by rfl),  trivial⟩, (by rw [diagK_zero])⟩ ?_
    rintro m _ _ ⟨j, e0, rfl, hf, rfl, rfl⟩
    have hd := diagK_length (colK (roundK xs i) 4) hc j
    refine AW.seq ?_
    refine AW.region ?_
    refine OpsW.q rfl (q_lss rfl rfl) ?_
    refine OpsW.nil ?_
    refine SeqP.go ?_
    refine AW.seq ?_
    refine AW.cond2 rfl (fun h2 => ?_) (fun h2 => ?_)
    ·
      try simp only [decide_eq_true_eq, decide_eq_false_iff_not, Bool.or_eq_true, Bool.and_eq_true, Bool.or_eq_false_iff, Bool.and_eq_false_imp, Bool.not_eq_true', Bool.not_eq_false', ne_eq, Decidable.not_not, Int.not_lt, Int.not_le, Bool.not_eq_true, Bool.not_eq_false] at h2
      refine AW.exit ?_
      refine SeqP.exit ?_
      refine LoopP.exit ?_
      obtain rfl : j = 4 := by omega
      refine BlockP.here ?_
      refine BlockP.go ?_
      refine SeqP.go ?_
      refine AW.region ?_
      refine OpsW.q rfl (q_addI rfl rfl (by omega)) ?_
      refine OpsW.q rfl (q_move (v := .int _ _) rfl) ?_
      refine OpsW.nil ?_
      exact LoopP.go _ (by omega) ⟨i + 1, _, rfl, (by omega), Slots.eq ⟨(by rfl), (by rfl), (by rfl), (by rfl),  trivial⟩, (by rw [roundK_succ])⟩
    try simp only [decide_eq_true_eq, decide_eq_false_iff_not, Bool.or_eq_true, Bool.and_eq_true, Bool.or_eq_false_iff, Bool.and_eq_false_imp, Bool.not_eq_true', Bool.not_eq_false', ne_eq, Decidable.not_not, Int.not_lt, Int.not_le, Bool.not_eq_true, Bool.not_eq_false] at h2
    refine AW.skip ?_
    refine SeqP.go ?_
    refine AW.seq ?_
    refine AW.block ?_
    refine AW.seq ?_
    refine AW.region ?_
    refine OpsW.q rfl (q_move (v := .int _ _) rfl) ?_
    refine OpsW.q rfl (q_assign (v := .int _ _) rfl) ?_
    refine OpsW.nil ?_
    refine SeqP.go ?_
    refine AW.region ?_
    refine OpsW.q rfl (q_move (v := .int _ _) rfl) ?_
    refine OpsW.q rfl (q_move (v := .int _ _) rfl) ?_
    refine OpsW.q rfl (q_addI rfl rfl (by omega)) ?_
    refine OpsW.q rfl (q_remI rfl rfl (by omega)) ?_
    refine OpsW.q rfl (q_addI rfl rfl (by omega)) ?_
    refine OpsW.q rfl (q_move (v := .int _ _) rfl) ?_
    refine OpsW.q rfl (q_addI rfl rfl (by omega)) ?_
    refine OpsW.q rfl (q_remI rfl rfl (by omega)) ?_
    refine OpsW.q rfl (q_addI rfl rfl (by omega)) ?_
    refine OpsW.q rfl (q_move (v := .int _ _) rfl) ?_
    refine OpsW.q rfl (q_addI rfl rfl (by omega)) ?_
    refine OpsW.q rfl (q_remI rfl rfl (by omega)) ?_
    refine OpsW.q rfl (q_addI rfl rfl (by omega)) ?_
    refine OpsW.x rfl (o_call rfl Try.func59 rfl rfl (quarter_con _ (by with_reducible assumption) (by omega) (by omega) (by omega) (by omega))) ?_
    refine OpsW.nil ?_
    refine BlockP.go ?_
    refine SeqP.go ?_
    refine AW.region ?_
    refine OpsW.q rfl (q_addI rfl rfl (by omega)) ?_
    refine OpsW.q rfl (q_move (v := .int _ _) rfl) ?_
    refine OpsW.nil ?_
    exact LoopP.go _ (by omega) ⟨j + 1, _, rfl, (by omega), Slots.eq ⟨(by rfl), (by rfl), (by rfl), (by rfl), (by rfl),  trivial⟩, (by simp only [Int.toNat_natCast, show (4 + ((j : Int) + 1) % 4).toNat = 4 + (j + 1) % 4 from by omega, show (8 + ((j : Int) + 2) % 4).toNat = 8 + (j + 2) % 4 from by omega, show (12 + ((j : Int) + 3) % 4).toNat = 12 + (j + 3) % 4 from by omega, diagK_succ])⟩
  try simp only [decide_eq_true_eq, decide_eq_false_iff_not, Bool.or_eq_true, Bool.and_eq_true, Bool.or_eq_false_iff, Bool.and_eq_false_imp, Bool.not_eq_true', Bool.not_eq_false', ne_eq, Decidable.not_not, Int.not_lt, Int.not_le, Bool.not_eq_true, Bool.not_eq_false] at h1
  refine AW.skip ?_
  refine SeqP.go ?_
  refine AW.seq ?_
  refine AW.block ?_
  refine AW.seq ?_
  refine AW.region ?_
  refine OpsW.q rfl (q_move (v := .int _ _) rfl) ?_
  refine OpsW.q rfl (q_assign (v := .int _ _) rfl) ?_
  refine OpsW.nil ?_
  refine SeqP.go ?_
  refine AW.region ?_
  refine OpsW.q rfl (q_move (v := .int _ _) rfl) ?_
  refine OpsW.q rfl (q_move (v := .int _ _) rfl) ?_
  refine OpsW.q rfl (q_addI rfl rfl (by omega)) ?_
  refine OpsW.q rfl (q_move (v := .int _ _) rfl) ?_
  refine OpsW.q rfl (q_addI rfl rfl (by omega)) ?_
  refine OpsW.q rfl (q_move (v := .int _ _) rfl) ?_
  refine OpsW.q rfl (q_addI rfl rfl (by omega)) ?_
  refine OpsW.x rfl (o_call rfl Try.func59 rfl rfl (quarter_con _ (by with_reducible assumption) (by omega) (by omega) (by omega) (by omega))) ?_
  refine OpsW.nil ?_
  refine BlockP.go ?_
  refine SeqP.go ?_
  refine AW.region ?_
  refine OpsW.q rfl (q_addI rfl rfl (by omega)) ?_
  refine OpsW.q rfl (q_move (v := .int _ _) rfl) ?_
  refine OpsW.nil ?_
  exact LoopP.go _ (by omega) ⟨j + 1, _, rfl, (by omega), Slots.eq ⟨(by rfl), (by rfl), (by rfl), (by rfl), (by rfl),  trivial⟩, (by simp only [Int.toNat_natCast, show (4 + (j : Int)).toNat = 4 + j from by omega, show (8 + (j : Int)).toNat = 8 + j from by omega, show (12 + (j : Int)).toNat = 12 + j from by omega, colK_succ])⟩
theorem block_con (key nonce : List UInt8) (n : Int) : Con Try.prog w0 31 #[S key, S nonce, .int .i64 n] H
      (fun v H' => v = .tuple #[S (blockP key nonce n).1, .int .i64 (blockP key nonce n).2] ∧ H' = H) := by
  refine Con.intro Try.func31 rfl rfl ?_
  refine AW.seq ?_
  refine AW.region ?_
  refine OpsW.q rfl (q_assign (v := S _) rfl) ?_
  refine OpsW.q rfl (q_assign (v := .int _ _) rfl) ?_
  refine OpsW.nil ?_
  refine SeqP.go ?_
  refine AW.seq ?_
  refine AW.seq ?_
  refine AW.region ?_
  refine OpsW.q rfl (q_move (v := S _) rfl) ?_
  refine OpsW.q rfl (q_move (v := S _) rfl) ?_
  refine OpsW.q rfl (q_move (v := .int _ _) rfl) ?_
  refine OpsW.x rfl (o_call rfl Try.func35 rfl rfl (wrong_con _ _ _)) ?_
  refine OpsW.q rfl (q_assign (v := .int _ _) rfl) ?_
  refine OpsW.nil ?_
  refine SeqP.go ?_
  refine AW.seq ?_
  refine AW.region ?_
  refine OpsW.q rfl (q_move (v := .int _ _) rfl) ?_
  refine OpsW.q rfl (q_neq rfl rfl) ?_
  refine OpsW.nil ?_
  refine SeqP.go ?_
  refine AW.cond rfl (fun h0 => ?_) (fun h0 => ?_)
  ·
    try simp only [decide_eq_true_eq, decide_eq_false_iff_not, Bool.or_eq_true, Bool.and_eq_true, Bool.or_eq_false_iff, Bool.and_eq_false_imp, Bool.not_eq_true', Bool.not_eq_false', ne_eq, Decidable.not_not, Int.not_lt, Int.not_le, Bool.not_eq_true, Bool.not_eq_false] at h0
    refine AW.seq ?_
    refine AW.region ?_
    refine OpsW.q rfl (q_move (v := .int _ _) rfl) ?_
    refine OpsW.q rfl (q_assign (v := S _) rfl) ?_
    refine OpsW.q rfl (q_assign (v := .int _ _) rfl) ?_
    refine OpsW.nil ?_
    refine SeqP.go ?_
    refine AW.ret ?_
    refine SeqP.ret ?_
    refine RetP.mk2 (H' := H) (v1 := S _) (v2 := .int _ _) rfl rfl rfl  (by exact (Hp.le_refl _)) ?_
    exact ⟨by first | rw [blockP_bad h0] | rw [blockP_ok h0], rfl⟩
  try simp only [decide_eq_true_eq, decide_eq_false_iff_not, Bool.or_eq_true, Bool.and_eq_true, Bool.or_eq_false_iff, Bool.and_eq_false_imp, Bool.not_eq_true', Bool.not_eq_false', ne_eq, Decidable.not_not, Int.not_lt, Int.not_le, Bool.not_eq_true, Bool.not_eq_false] at h0
  obtain ⟨hk, hn, hn0, hn1⟩ := wrong_zero h0
  have hs := started_length key nonce n
  have hs2 := stirred_length (started key nonce n)
  refine AW.skip ?_
  refine SeqP.go ?_
  refine AW.seq ?_
  refine AW.region ?_
  refine OpsW.q rfl (q_move (v := S _) rfl) ?_
  refine OpsW.q rfl (q_move (v := S _) rfl) ?_
  refine OpsW.q rfl (q_move (v := .int _ _) rfl) ?_
  refine OpsW.x rfl (o_call rfl Try.func36 rfl rfl (started_con _ _ _ hk hn)) ?_
  refine OpsW.x rfl (o_call rfl Try.func37 rfl rfl (stirred_con _ hs)) ?_
  refine OpsW.m rfl (o_allocN (k := .u8) (m := 64) (by kernel_rfl)) ?_
  rintro _ _ ⟨b9, hb9, rfl, rfl⟩
  refine OpsW.s (o_storeA0 (n := 64) (k := .u8) (by kernel_rfl) rfl rfl (by with_reducible assumption) (by rfl)) ?_
  refine OpsW.nil ?_
  refine SeqP.go ?_
  refine AW.seq ?_
  refine AW.region ?_
  refine OpsW.q rfl (q_sliceArr_all (sz := 1) Try.underlying56 (by kernel_rfl) rfl ) ?_
  refine OpsW.q rfl (q_string0 Try.underlying33 Try.underlying5 Try.underlying9 rfl (by exact Hp.set_self) (by omega)) ?_
  refine OpsW.q rfl (q_assign (v := S _) rfl) ?_
  refine OpsW.q rfl (q_assign (v := .int _ _) rfl) ?_
  refine OpsW.nil ?_
  refine SeqP.go ?_
  refine AW.ret ?_
  refine RetP.mk2 (H' := H) (v1 := S _) (v2 := .int _ _) rfl rfl rfl  (by exact (Hp.le_set (by first | assumption | exact Hp.set_none (by assumption) (by first | assumption | exact Ne.symm (by assumption)) | exact Hp.set_none (Hp.set_none (by assumption) (by first | assumption | exact Ne.symm (by assumption))) (by first | assumption | exact Ne.symm (by assumption))) (Hp.le_refl _))) ?_
  exact ⟨by first | rw [blockP_bad h0] | rw [blockP_ok h0], rfl⟩
theorem xor_con (key nonce : List UInt8) (n : Int) (data : List UInt8) (hd : data.length ≤ 1099511627776) : Con Try.prog w0 22 #[S key, S nonce, .int .i64 n, S data] H
      (fun v H' => v = .tuple #[S (xorP key nonce n data).1, .int .i64 (xorP key nonce n data).2] ∧ H' = H) := by
  refine Con.intro Try.func22 rfl rfl ?_
  refine AW.seq ?_
  refine AW.region ?_
  refine OpsW.q rfl (q_assign (v := S _) rfl) ?_
  refine OpsW.q rfl (q_assign (v := .int _ _) rfl) ?_
  refine OpsW.nil ?_
  refine SeqP.go ?_
  refine AW.seq ?_
  refine AW.seq ?_
  refine AW.region ?_
  refine OpsW.q rfl (q_move (v := S _) rfl) ?_
  refine OpsW.q rfl (q_move (v := S _) rfl) ?_
  refine OpsW.q rfl (q_move (v := .int _ _) rfl) ?_
  refine OpsW.x rfl (o_call rfl Try.func35 rfl rfl (wrong_con _ _ _)) ?_
  refine OpsW.q rfl (q_assign (v := .int _ _) rfl) ?_
  refine OpsW.nil ?_
  refine SeqP.go ?_
  refine AW.seq ?_
  refine AW.region ?_
  refine OpsW.q rfl (q_move (v := .int _ _) rfl) ?_
  refine OpsW.q rfl (q_neq rfl rfl) ?_
  refine OpsW.nil ?_
  refine SeqP.go ?_
  refine AW.cond rfl (fun h0 => ?_) (fun h0 => ?_)
  ·
    try simp only [decide_eq_true_eq, decide_eq_false_iff_not, Bool.or_eq_true, Bool.and_eq_true, Bool.or_eq_false_iff, Bool.and_eq_false_imp, Bool.not_eq_true', Bool.not_eq_false', ne_eq, Decidable.not_not, Int.not_lt, Int.not_le, Bool.not_eq_true, Bool.not_eq_false] at h0
    refine AW.seq ?_
    refine AW.region ?_
    refine OpsW.q rfl (q_move (v := .int _ _) rfl) ?_
    refine OpsW.q rfl (q_assign (v := S _) rfl) ?_
    refine OpsW.q rfl (q_assign (v := .int _ _) rfl) ?_
    refine OpsW.nil ?_
    refine SeqP.go ?_
    refine AW.ret ?_
    refine SeqP.ret ?_
    refine RetP.mk2 (H' := H) (v1 := S _) (v2 := .int _ _) rfl rfl rfl  (by exact (Hp.le_refl _)) ?_
    exact ⟨by first | rw [xorP_bad h0] | rw [xorP_big h0 h1] | rw [xorP_ok h0 h1], rfl⟩
  try simp only [decide_eq_true_eq, decide_eq_false_iff_not, Bool.or_eq_true, Bool.and_eq_true, Bool.or_eq_false_iff, Bool.and_eq_false_imp, Bool.not_eq_true', Bool.not_eq_false', ne_eq, Decidable.not_not, Int.not_lt, Int.not_le, Bool.not_eq_true, Bool.not_eq_false] at h0
  obtain ⟨hk, hn, hn0, hn1⟩ := wrong_zero h0
  refine AW.skip ?_
  refine SeqP.go ?_
  refine AW.seq ?_
  refine AW.seq ?_
  refine AW.region ?_
  refine OpsW.q rfl (q_move (v := S _) rfl) ?_
  refine OpsW.q rfl (q_lenS Try.underlying9 rfl) ?_
  refine OpsW.q rfl (q_addI rfl rfl (by omega)) ?_
  refine OpsW.q rfl (q_subI rfl rfl (by omega)) ?_
  refine OpsW.q rfl (q_quoI rfl rfl (by omega)) ?_
  refine OpsW.q rfl (q_assign (v := .int _ _) rfl) ?_
  refine OpsW.nil ?_
  refine SeqP.go ?_
  refine AW.seq ?_
  refine AW.region ?_
  refine OpsW.q rfl (q_move (v := .int _ _) rfl) ?_
  refine OpsW.q rfl (q_move (v := .int _ _) rfl) ?_
  refine OpsW.q rfl (q_subI rfl rfl (by omega)) ?_
  refine OpsW.q rfl (q_gtr rfl rfl) ?_
  refine OpsW.nil ?_
  refine SeqP.go ?_
  refine AW.cond rfl (fun h1 => ?_) (fun h1 => ?_)
  ·
    try simp only [decide_eq_true_eq, decide_eq_false_iff_not, Bool.or_eq_true, Bool.and_eq_true, Bool.or_eq_false_iff, Bool.and_eq_false_imp, Bool.not_eq_true', Bool.not_eq_false', ne_eq, Decidable.not_not, Int.not_lt, Int.not_le, Bool.not_eq_true, Bool.not_eq_false] at h1
    refine AW.seq ?_
    refine AW.region ?_
    refine OpsW.q rfl (q_assign (v := S _) rfl) ?_
    refine OpsW.q rfl (q_assign (v := .int _ _) rfl) ?_
    refine OpsW.nil ?_
    refine SeqP.go ?_
    refine AW.ret ?_
    refine SeqP.ret ?_
    refine RetP.mk2 (H' := H) (v1 := S _) (v2 := .int _ _) rfl rfl rfl  (by exact (Hp.le_refl _)) ?_
    exact ⟨by first | rw [xorP_bad h0] | rw [xorP_big h0 h1] | rw [xorP_ok h0 h1], rfl⟩
  try simp only [decide_eq_true_eq, decide_eq_false_iff_not, Bool.or_eq_true, Bool.and_eq_true, Bool.or_eq_false_iff, Bool.and_eq_false_imp, Bool.not_eq_true', Bool.not_eq_false', ne_eq, Decidable.not_not, Int.not_lt, Int.not_le, Bool.not_eq_true, Bool.not_eq_false] at h1
  have hs := started_length key nonce n
  have hml : data.length ≤ maxLen := by unfold maxLen; omega
  refine AW.skip ?_
  refine SeqP.go ?_
  refine AW.seq ?_
  refine AW.region ?_
  refine OpsW.q rfl (q_move (v := S _) rfl) ?_
  refine OpsW.m rfl (o_bytes rfl Try.underlying33 Try.underlying5 rfl (by with_reducible assumption)) ?_
  rintro _ _ ⟨b34, c34, hb34, hl34, hc34, rfl, rfl⟩
  refine OpsW.q rfl (q_assign (v := .slice _ _ _) rfl) ?_
  refine OpsW.nil ?_
  refine SeqP.go ?_
  refine AW.seq ?_
  refine AW.region ?_
  refine OpsW.q rfl (q_move (v := S _) rfl) ?_
  refine OpsW.q rfl (q_move (v := S _) rfl) ?_
  refine OpsW.q rfl (q_move (v := .int _ _) rfl) ?_
  refine OpsW.x rfl (o_call rfl Try.func36 rfl rfl (started_con _ _ _ hk hn)) ?_
  refine OpsW.m rfl (o_allocN (k := .u32) (m := 16) (by kernel_rfl)) ?_
  rintro _ _ ⟨b13, hb13, rfl, rfl⟩
  obtain ⟨hb13, n13_34⟩ := Hp.none_set hb13
  refine OpsW.s (o_storeA0 (n := 16) (k := .u32) (by kernel_rfl) rfl rfl (by with_reducible assumption) (by rfl)) ?_
  refine OpsW.nil ?_
  refine SeqP.go ?_
  refine AW.seq ?_
  refine AW.seq ?_
  refine AW.region ?_
  refine OpsW.q rfl (q_assign (v := .int _ _) rfl) ?_
  refine OpsW.nil ?_
  refine SeqP.go ?_
  refine AW.block ?_
  refine AW.loop (fun m e H' => ∃ (i : Nat) (e0 : Env), m = data.length - 64 * i ∧ (64 * i < data.length + 64) ∧ e = upds e0 [(12, .slice (some ⟨b34, 0, none⟩) data.length c34), (13, .pointer (some ⟨b13, 0, none⟩)), (14, .int .i64 ((64 * i : Nat) : Int))] ∧ H' = (H.set b34 ⟨nums .u8 (xorO key nonce n data i), c34, 5⟩).set b13 ⟨nums .u32 (stK key nonce n i), 16, 54⟩) _ ⟨0, _, rfl, (by omega), Slots.eq ⟨(by rfl), (by rfl), (by rfl),  trivial⟩, (by rw [xorO_zero, stK_zero])⟩ ?_
  rintro m _ _ ⟨i, e0, rfl, hf, rfl, rfl⟩
  have hxl := xorO_length key nonce n data i
  have hsl := stK_length key nonce n i
  have hs2 := stirred_length (stK key nonce n i)
  refine AW.seq ?_
  refine AW.seq ?_
  refine AW.region ?_
  refine OpsW.q rfl (q_move (v := .int _ _) rfl) ?_
  refine OpsW.q rfl (q_move (v := .slice _ _ _) rfl) ?_
  refine OpsW.q rfl (q_lenV Try.underlying33 rfl) ?_
  refine OpsW.q rfl (q_lss rfl rfl) ?_
  refine OpsW.nil ?_
  refine SeqP.go ?_
  refine AW.cond2 rfl (fun h2 => ?_) (fun h2 => ?_)
  ·
    try simp only [decide_eq_true_eq, decide_eq_false_iff_not, Bool.or_eq_true, Bool.and_eq_true, Bool.or_eq_false_iff, Bool.and_eq_false_imp, Bool.not_eq_true', Bool.not_eq_false', ne_eq, Decidable.not_not, Int.not_lt, Int.not_le, Bool.not_eq_true, Bool.not_eq_false] at h2
    refine AW.exit ?_
    refine SeqP.exit ?_
    refine LoopP.exit ?_
    obtain rfl : i = (data.length + 63) / 64 := by omega
    refine BlockP.here ?_
    refine SeqP.go ?_
    refine AW.seq ?_
    refine AW.region ?_
    refine OpsW.q rfl (q_move (v := .slice _ _ _) rfl) ?_
    refine OpsW.q rfl (q_string0 Try.underlying33 Try.underlying5 Try.underlying9 rfl (by exact (Hp.set_ne (by exact Ne.symm (by assumption))).trans (Hp.set_self)) (by omega)) ?_
    refine OpsW.q rfl (q_assign (v := S _) rfl) ?_
    refine OpsW.q rfl (q_assign (v := .int _ _) rfl) ?_
    refine OpsW.nil ?_
    refine SeqP.go ?_
    refine AW.ret ?_
    refine RetP.mk2 (H' := H) (v1 := S _) (v2 := .int _ _) rfl rfl rfl  (by exact (Hp.le_set (by first | assumption | exact Hp.set_none (by assumption) (by first | assumption | exact Ne.symm (by assumption)) | exact Hp.set_none (Hp.set_none (by assumption) (by first | assumption | exact Ne.symm (by assumption))) (by first | assumption | exact Ne.symm (by assumption))) (Hp.le_set (by first | assumption | exact Hp.set_none (by assumption) (by first | assumption | exact Ne.symm (by assumption)) | exact Hp.set_none (Hp.set_none (by assumption) (by first | assumption | exact Ne.symm (by assumption))) (by first | assumption | exact Ne.symm (by assumption))) (Hp.le_refl _)))) ?_
    exact ⟨by first | rw [xorP_bad h0] | rw [xorP_big h0 h1] | rw [xorP_ok h0 h1], rfl⟩
  try simp only [decide_eq_true_eq, decide_eq_false_iff_not, Bool.or_eq_true, Bool.and_eq_true, Bool.or_eq_false_iff, Bool.and_eq_false_imp, Bool.not_eq_true', Bool.not_eq_false', ne_eq, Decidable.not_not, Int.not_lt, Int.not_le, Bool.not_eq_true, Bool.not_eq_false] at h2
  refine AW.skip ?_
  refine SeqP.go ?_
  refine AW.seq ?_
  refine AW.block ?_
  refine AW.seq ?_
  refine AW.seq ?_
  refine AW.region ?_
  refine OpsW.q rfl (q_loadAN (n := 16) (k := .u32) (by kernel_rfl) rfl (by exact Hp.set_self) (by with_reducible assumption)) ?_
  refine OpsW.x rfl (o_call rfl Try.func37 rfl rfl (stirred_con _ (stK_length key nonce n i))) ?_
  refine OpsW.q rfl (q_move (v := .int _ _) rfl) ?_
  refine OpsW.nil ?_
  refine SeqP.go ?_
  refine AW.block ?_
  refine AW.loop (fun m e H' => ∃ (j : Nat) (e0 : Env), m = 64 - j ∧ (j ≤ 64) ∧ e = upds e0 [(12, .slice (some ⟨b34, 0, none⟩) data.length c34), (13, .pointer (some ⟨b13, 0, none⟩)), (14, .int .i64 ((64 * i : Nat) : Int)), (46, .agg (nums .u8 (stirred (stK key nonce n i))).toArray), (47, .int .i64 (j : Int))] ∧ H' = (H.set b34 ⟨nums .u8 (xorI (64 * i) (stirred (stK key nonce n i)) (xorO key nonce n data i) j), c34, 5⟩).set b13 ⟨nums .u32 (stK key nonce n i), 16, 54⟩) _ ⟨0, _, rfl, (by omega), Slots.eq ⟨(by rfl), (by rfl), (by rfl), (by rfl), (by rfl),  trivial⟩, (by rw [xorI_zero])⟩ ?_
  rintro m _ _ ⟨j, e0, rfl, hf, rfl, rfl⟩
  have hil := xorI_length (64 * i) (stirred (stK key nonce n i)) (xorO key nonce n data i) j
  refine AW.seq ?_
  refine AW.region ?_
  refine OpsW.q rfl (q_lss rfl rfl) ?_
  refine OpsW.nil ?_
  refine SeqP.go ?_
  refine AW.seq ?_
  refine AW.cond2 rfl (fun h3 => ?_) (fun h3 => ?_)
  ·
    try simp only [decide_eq_true_eq, decide_eq_false_iff_not, Bool.or_eq_true, Bool.and_eq_true, Bool.or_eq_false_iff, Bool.and_eq_false_imp, Bool.not_eq_true', Bool.not_eq_false', ne_eq, Decidable.not_not, Int.not_lt, Int.not_le, Bool.not_eq_true, Bool.not_eq_false] at h3
    refine AW.exit ?_
    refine SeqP.exit ?_
    refine LoopP.exit ?_
    obtain rfl : j = 64 := by omega
    refine BlockP.here ?_
    refine SeqP.go ?_
    refine AW.region ?_
    refine OpsW.q rfl (q_indexAddrA0 Try.underlying54 (by kernel_rfl) rfl rfl (by omega) (by omega)) ?_
    refine OpsW.q rfl (q_loadN (by kernel_rfl) rfl (by exact Hp.set_self) (by omega)) ?_
    refine OpsW.q rfl (q_add rfl rfl) ?_
    refine OpsW.q rfl (q_indexAddrA0 Try.underlying54 (by kernel_rfl) rfl rfl (by omega) (by omega)) ?_
    refine OpsW.s (o_storeN1 (by kernel_rfl) rfl rfl (by omega)) ?_
    refine OpsW.nil ?_
    refine BlockP.go ?_
    refine SeqP.go ?_
    refine AW.region ?_
    refine OpsW.q rfl (q_move (v := .int _ _) rfl) ?_
    refine OpsW.q rfl (q_addI rfl rfl (by omega)) ?_
    refine OpsW.q rfl (q_assign (v := .int _ _) rfl) ?_
    refine OpsW.nil ?_
    exact LoopP.go _ (by omega) ⟨i + 1, _, rfl, (by omega), Slots.eq ⟨(by rfl), (by rfl), (by rfl),  trivial⟩, (by rw [xorO_succ, stK_succ]; rfl)⟩
  try simp only [decide_eq_true_eq, decide_eq_false_iff_not, Bool.or_eq_true, Bool.and_eq_true, Bool.or_eq_false_iff, Bool.and_eq_false_imp, Bool.not_eq_true', Bool.not_eq_false', ne_eq, Decidable.not_not, Int.not_lt, Int.not_le, Bool.not_eq_true, Bool.not_eq_false] at h3
  refine AW.skip ?_
  refine SeqP.go ?_
  refine AW.seq ?_
  refine AW.block ?_
  refine AW.seq ?_
  refine AW.region ?_
  refine OpsW.q rfl (q_move (v := .int _ _) rfl) ?_
  refine OpsW.q rfl (q_indexAN (k := .u8) Try.underlying56 (by kernel_rfl) (by kernel_rfl) rfl rfl (by omega) (by omega) (by with_reducible assumption)) ?_
  refine OpsW.q rfl (q_assign (v := .int _ _) rfl) ?_
  refine OpsW.q rfl (q_assign (v := .int _ _) rfl) ?_
  refine OpsW.nil ?_
  refine SeqP.go ?_
  refine AW.seq ?_
  refine AW.region ?_
  refine OpsW.q rfl (q_move (v := .int _ _) rfl) ?_
  refine OpsW.q rfl (q_move (v := .int _ _) rfl) ?_
  refine OpsW.q rfl (q_addI rfl rfl (by omega)) ?_
  refine OpsW.q rfl (q_move (v := .slice _ _ _) rfl) ?_
  refine OpsW.q rfl (q_lenV Try.underlying33 rfl) ?_
  refine OpsW.q rfl (q_lss rfl rfl) ?_
  refine OpsW.nil ?_
  refine SeqP.go ?_
  refine AW.cond rfl (fun h4 => ?_) (fun h4 => ?_)
  ·
    try simp only [decide_eq_true_eq, decide_eq_false_iff_not, Bool.or_eq_true, Bool.and_eq_true, Bool.or_eq_false_iff, Bool.and_eq_false_imp, Bool.not_eq_true', Bool.not_eq_false', ne_eq, Decidable.not_not, Int.not_lt, Int.not_le, Bool.not_eq_true, Bool.not_eq_false] at h4
    refine AW.region ?_
    refine OpsW.q rfl (q_move (v := .slice _ _ _) rfl) ?_
    refine OpsW.q rfl (q_move (v := .int _ _) rfl) ?_
    refine OpsW.q rfl (q_move (v := .int _ _) rfl) ?_
    refine OpsW.q rfl (q_addI rfl rfl (by omega)) ?_
    refine OpsW.q rfl (q_indexAddrV0 Try.underlying33 (by kernel_rfl) rfl rfl (by omega) (by omega)) ?_
    refine OpsW.q rfl (q_loadN (by kernel_rfl) rfl (by exact (Hp.set_ne (by exact Ne.symm (by assumption))).trans (Hp.set_self)) (by omega)) ?_
    refine OpsW.q rfl (q_move (v := .int _ _) rfl) ?_
    refine OpsW.q rfl (q_xor rfl rfl) ?_
    refine OpsW.q rfl (q_indexAddrV0 Try.underlying33 (by kernel_rfl) rfl rfl (by omega) (by omega)) ?_
    refine OpsW.s (o_storeN2 (by kernel_rfl) rfl rfl (by omega) (by exact Ne.symm (by assumption))) ?_
    refine OpsW.nil ?_
    refine BlockP.go ?_
    refine SeqP.go ?_
    refine AW.region ?_
    refine OpsW.q rfl (q_addI rfl rfl (by omega)) ?_
    refine OpsW.q rfl (q_move (v := .int _ _) rfl) ?_
    refine OpsW.nil ?_
    exact LoopP.go _ (by omega) ⟨j + 1, _, rfl, (by omega), Slots.eq ⟨(by rfl), (by rfl), (by rfl), (by rfl), (by rfl),  trivial⟩, (by first | rw [xorI_pos (by omega)]; simp only [show (((64 * i : Nat) : Int) + (j : Int)).toNat = 64 * i + j from by omega, Int.toNat_natCast] | rw [xorI_neg (by omega)])⟩
  try simp only [decide_eq_true_eq, decide_eq_false_iff_not, Bool.or_eq_true, Bool.and_eq_true, Bool.or_eq_false_iff, Bool.and_eq_false_imp, Bool.not_eq_true', Bool.not_eq_false', ne_eq, Decidable.not_not, Int.not_lt, Int.not_le, Bool.not_eq_true, Bool.not_eq_false] at h4
  refine AW.skip ?_
  refine BlockP.go ?_
  refine SeqP.go ?_
  refine AW.region ?_
  refine OpsW.q rfl (q_addI rfl rfl (by omega)) ?_
  refine OpsW.q rfl (q_move (v := .int _ _) rfl) ?_
  refine OpsW.nil ?_
  exact LoopP.go _ (by omega) ⟨j + 1, _, rfl, (by omega), Slots.eq ⟨(by rfl), (by rfl), (by rfl), (by rfl), (by rfl),  trivial⟩, (by first | rw [xorI_pos (by omega)]; simp only [show (((64 * i : Nat) : Int) + (j : Int)).toNat = 64 * i + j from by omega, Int.toNat_natCast] | rw [xorI_neg (by omega)])⟩
end
end Go.Proofs.Ytkfdoicjpoofhaa.Ch
end
section
namespace Go.Proofs.Ytkfdoicjpoofhaa.Ch
open Go Go.RowKit D
set_option linter.unusedVariables false
set_option linter.unusedSimpArgs false
set_option maxRecDepth 100000
set_option maxHeartbeats 1000000
section
variable {w0 : World} {H : Hp}
theorem rolledR_con (x n : Int) (h : n = 16 ∨ n = 12 ∨ n = 8 ∨ n = 7) : Con Try.prog w0 83 #[.int .u32 x, .int .i64 n] H (fun v H' => v = .int .u32 (rotl x n) ∧ H' = H) := by
  refine Con.intro Try.func83 rfl rfl ?_
  refine AW.seq ?_
  refine AW.region ?_
  refine OpsW.q rfl (q_assign (v := .int _ _) rfl) ?_
  refine OpsW.nil ?_
  refine SeqP.go ?_
  refine AW.seq ?_
  refine AW.drawK [] 7 rfl (by kernel_rfl) ?_
  refine SeqK.q rfl (q_move (v := .int _ _) rfl) ?_
  refine SeqK.q rfl (q_move (v := .int _ _) rfl) ?_
  refine SeqK.q rfl (q_shl rfl rfl (by omega)) ?_
  refine SeqK.q rfl (q_move (v := .int _ _) rfl) ?_
  refine SeqK.q rfl (q_move (v := .int _ _) rfl) ?_
  refine SeqK.q rfl (q_subI rfl rfl (by omega)) ?_
  refine SeqK.q rfl (q_shr rfl rfl (by omega)) ?_
  refine SeqK.done ?_
  refine OpsW.q rfl (q_or rfl rfl) ?_
  refine OpsW.q rfl (q_assign (v := .int _ _) rfl) ?_
  refine OpsW.nil ?_
  refine SeqP.go ?_
  refine AW.ret ?_
  refine RetP.mk1 (H' := H) (v1 := .int _ _) rfl rfl  (by exact (Hp.le_refl _)) ?_
  exact ⟨by rw [← rolledR_eq h]; rfl, rfl⟩
theorem quarterR_con {bv sz cv : Nat} {el : TypeId} {a b c d : Int} (xs : List Int) (hl : xs.length = 16) (ha : 0 ≤ a ∧ a < 16) (hb : 0 ≤ b ∧ b < 16) (hc : 0 ≤ c ∧ c < 16) (hd : 0 ≤ d ∧ d < 16) :
    Con Try.prog w0 68 #[.slice (some ⟨bv, 0, none⟩) 16 cv, .int .i64 a, .int .i64 b, .int .i64 c, .int .i64 d] (H.set bv ⟨nums .u32 xs, sz, el⟩)
      (fun v H' => v = .tuple #[] ∧ H' = H.set bv ⟨nums .u32 (quarter xs a.toNat b.toNat c.toNat d.toNat), sz, el⟩) := by
  refine Con.intro Try.func68 rfl rfl ?_
  refine AW.seq ?_
  refine AW.drawK [] 11 rfl (by kernel_rfl) ?_
  refine SeqK.q rfl (q_move (v := .slice _ _ _) rfl) ?_
  refine SeqK.q rfl (q_move (v := .int _ _) rfl) ?_
  refine SeqK.q rfl (q_move (v := .slice _ _ _) rfl) ?_
  refine SeqK.q rfl (q_move (v := .int _ _) rfl) ?_
  refine SeqK.q rfl (q_indexAddrV0 Try.underlying85 (by kernel_rfl) rfl rfl (by omega) (by omega)) ?_
  refine SeqK.q rfl (q_loadN (by kernel_rfl) rfl (by exact Hp.set_self) (by omega)) ?_
  refine SeqK.q rfl (q_move (v := .slice _ _ _) rfl) ?_
  refine SeqK.q rfl (q_move (v := .int _ _) rfl) ?_
  refine SeqK.q rfl (q_indexAddrV0 Try.underlying85 (by kernel_rfl) rfl rfl (by omega) (by omega)) ?_
  refine SeqK.q rfl (q_loadN (by kernel_rfl) rfl (by exact Hp.set_self) (by omega)) ?_
  refine SeqK.q rfl (q_add rfl rfl) ?_
  refine SeqK.done ?_
  refine OpsW.q rfl (q_indexAddrV0 Try.underlying85 (by kernel_rfl) rfl rfl (by omega) (by omega)) ?_
  refine OpsW.s (o_storeN1 (by kernel_rfl) rfl rfl (by omega)) ?_
  refine OpsW.nil ?_
  refine SeqP.go ?_
  refine AW.seq ?_
  refine AW.drawK [] 12 rfl (by kernel_rfl) ?_
  refine SeqK.q rfl (q_move (v := .slice _ _ _) rfl) ?_
  refine SeqK.q rfl (q_move (v := .int _ _) rfl) ?_
  refine SeqK.q rfl (q_move (v := .slice _ _ _) rfl) ?_
  refine SeqK.q rfl (q_move (v := .int _ _) rfl) ?_
  refine SeqK.q rfl (q_indexAddrV0 Try.underlying85 (by kernel_rfl) rfl rfl (by omega) (by omega)) ?_
  refine SeqK.q rfl (q_loadN (by kernel_rfl) rfl (by exact Hp.set_self) (by simp only [nums_length, List.length_set, List.length_replicate, List.length_take, List.length_drop, List.length_append, List.length_cons, List.length_nil, ofB_length, toB_length]; omega)) ?_
  refine SeqK.q rfl (q_move (v := .slice _ _ _) rfl) ?_
  refine SeqK.q rfl (q_move (v := .int _ _) rfl) ?_
  refine SeqK.q rfl (q_indexAddrV0 Try.underlying85 (by kernel_rfl) rfl rfl (by omega) (by omega)) ?_
  refine SeqK.q rfl (q_loadN (by kernel_rfl) rfl (by exact Hp.set_self) (by simp only [nums_length, List.length_set, List.length_replicate, List.length_take, List.length_drop, List.length_append, List.length_cons, List.length_nil, ofB_length, toB_length]; omega)) ?_
  refine SeqK.q rfl (q_xor rfl rfl) ?_
  refine SeqK.q rfl (o_call rfl Try.func83 rfl rfl (rolledR_con _ _ (by omega))) ?_
  refine SeqK.done ?_
  refine OpsW.q rfl (q_indexAddrV0 Try.underlying85 (by kernel_rfl) rfl rfl (by omega) (by omega)) ?_
  refine OpsW.s (o_storeN1 (by kernel_rfl) rfl rfl (by simp only [nums_length, List.length_set, List.length_replicate, List.length_take, List.length_drop, List.length_append, List.length_cons, List.length_nil, ofB_length, toB_length]; omega)) ?_
  refine OpsW.nil ?_
  refine SeqP.go ?_
  refine AW.seq ?_
  refine AW.drawK [] 11 rfl (by kernel_rfl) ?_
  refine SeqK.q rfl (q_move (v := .slice _ _ _) rfl) ?_
  refine SeqK.q rfl (q_move (v := .int _ _) rfl) ?_
  refine SeqK.q rfl (q_move (v := .slice _ _ _) rfl) ?_
  refine SeqK.q rfl (q_move (v := .int _ _) rfl) ?_
  refine SeqK.q rfl (q_indexAddrV0 Try.underlying85 (by kernel_rfl) rfl rfl (by omega) (by omega)) ?_
  refine SeqK.q rfl (q_loadN (by kernel_rfl) rfl (by exact Hp.set_self) (by simp only [nums_length, List.length_set, List.length_replicate, List.length_take, List.length_drop, List.length_append, List.length_cons, List.length_nil, ofB_length, toB_length]; omega)) ?_
  refine SeqK.q rfl (q_move (v := .slice _ _ _) rfl) ?_
  refine SeqK.q rfl (q_move (v := .int _ _) rfl) ?_
  refine SeqK.q rfl (q_indexAddrV0 Try.underlying85 (by kernel_rfl) rfl rfl (by omega) (by omega)) ?_
  refine SeqK.q rfl (q_loadN (by kernel_rfl) rfl (by exact Hp.set_self) (by simp only [nums_length, List.length_set, List.length_replicate, List.length_take, List.length_drop, List.length_append, List.length_cons, List.length_nil, ofB_length, toB_length]; omega)) ?_
  refine SeqK.q rfl (q_add rfl rfl) ?_
  refine SeqK.done ?_
  refine OpsW.q rfl (q_indexAddrV0 Try.underlying85 (by kernel_rfl) rfl rfl (by omega) (by omega)) ?_
  refine OpsW.s (o_storeN1 (by kernel_rfl) rfl rfl (by simp only [nums_length, List.length_set, List.length_replicate, List.length_take, List.length_drop, List.length_append, List.length_cons, List.length_nil, ofB_length, toB_length]; omega)) ?_
  refine OpsW.nil ?_
  refine SeqP.go ?_
  refine AW.seq ?_
  refine AW.drawK [] 12 rfl (by kernel_rfl) ?_
  refine SeqK.q rfl (q_move (v := .slice _ _ _) rfl) ?_
  refine SeqK.q rfl (q_move (v := .int _ _) rfl) ?_
  refine SeqK.q rfl (q_move (v := .slice _ _ _) rfl) ?_
  refine SeqK.q rfl (q_move (v := .int _ _) rfl) ?_
  refine SeqK.q rfl (q_indexAddrV0 Try.underlying85 (by kernel_rfl) rfl rfl (by omega) (by omega)) ?_
  refine SeqK.q rfl (q_loadN (by kernel_rfl) rfl (by exact Hp.set_self) (by simp only [nums_length, List.length_set, List.length_replicate, List.length_take, List.length_drop, List.length_append, List.length_cons, List.length_nil, ofB_length, toB_length]; omega)) ?_
  refine SeqK.q rfl (q_move (v := .slice _ _ _) rfl) ?_
  refine SeqK.q rfl (q_move (v := .int _ _) rfl) ?_
  refine SeqK.q rfl (q_indexAddrV0 Try.underlying85 (by kernel_rfl) rfl rfl (by omega) (by omega)) ?_
  refine SeqK.q rfl (q_loadN (by kernel_rfl) rfl (by exact Hp.set_self) (by simp only [nums_length, List.length_set, List.length_replicate, List.length_take, List.length_drop, List.length_append, List.length_cons, List.length_nil, ofB_length, toB_length]; omega)) ?_
  refine SeqK.q rfl (q_xor rfl rfl) ?_
  refine SeqK.q rfl (o_call rfl Try.func83 rfl rfl (rolledR_con _ _ (by omega))) ?_
  refine SeqK.done ?_
  refine OpsW.q rfl (q_indexAddrV0 Try.underlying85 (by kernel_rfl) rfl rfl (by omega) (by omega)) ?_
  refine OpsW.s (o_storeN1 (by kernel_rfl) rfl rfl (by simp only [nums_length, List.length_set, List.length_replicate, List.length_take, List.length_drop, List.length_append, List.length_cons, List.length_nil, ofB_length, toB_length]; omega)) ?_
  refine OpsW.nil ?_
  refine SeqP.go ?_
  refine AW.seq ?_
  refine AW.drawK [] 11 rfl (by kernel_rfl) ?_
  refine SeqK.q rfl (q_move (v := .slice _ _ _) rfl) ?_
  refine SeqK.q rfl (q_move (v := .int _ _) rfl) ?_
  refine SeqK.q rfl (q_move (v := .slice _ _ _) rfl) ?_
  refine SeqK.q rfl (q_move (v := .int _ _) rfl) ?_
  refine SeqK.q rfl (q_indexAddrV0 Try.underlying85 (by kernel_rfl) rfl rfl (by omega) (by omega)) ?_
  refine SeqK.q rfl (q_loadN (by kernel_rfl) rfl (by exact Hp.set_self) (by simp only [nums_length, List.length_set, List.length_replicate, List.length_take, List.length_drop, List.length_append, List.length_cons, List.length_nil, ofB_length, toB_length]; omega)) ?_
  refine SeqK.q rfl (q_move (v := .slice _ _ _) rfl) ?_
  refine SeqK.q rfl (q_move (v := .int _ _) rfl) ?_
  refine SeqK.q rfl (q_indexAddrV0 Try.underlying85 (by kernel_rfl) rfl rfl (by omega) (by omega)) ?_
  refine SeqK.q rfl (q_loadN (by kernel_rfl) rfl (by exact Hp.set_self) (by simp only [nums_length, List.length_set, List.length_replicate, List.length_take, List.length_drop, List.length_append, List.length_cons, List.length_nil, ofB_length, toB_length]; omega)) ?_
  refine SeqK.q rfl (q_add rfl rfl) ?_
  refine SeqK.done ?_
  refine OpsW.q rfl (q_indexAddrV0 Try.underlying85 (by kernel_rfl) rfl rfl (by omega) (by omega)) ?_
  refine OpsW.s (o_storeN1 (by kernel_rfl) rfl rfl (by simp only [nums_length, List.length_set, List.length_replicate, List.length_take, List.length_drop, List.length_append, List.length_cons, List.length_nil, ofB_length, toB_length]; omega)) ?_
  refine OpsW.nil ?_
  refine SeqP.go ?_
  refine AW.seq ?_
  refine AW.drawK [] 12 rfl (by kernel_rfl) ?_
  refine SeqK.q rfl (q_move (v := .slice _ _ _) rfl) ?_
  refine SeqK.q rfl (q_move (v := .int _ _) rfl) ?_
  refine SeqK.q rfl (q_move (v := .slice _ _ _) rfl) ?_
  refine SeqK.q rfl (q_move (v := .int _ _) rfl) ?_
  refine SeqK.q rfl (q_indexAddrV0 Try.underlying85 (by kernel_rfl) rfl rfl (by omega) (by omega)) ?_
  refine SeqK.q rfl (q_loadN (by kernel_rfl) rfl (by exact Hp.set_self) (by simp only [nums_length, List.length_set, List.length_replicate, List.length_take, List.length_drop, List.length_append, List.length_cons, List.length_nil, ofB_length, toB_length]; omega)) ?_
  refine SeqK.q rfl (q_move (v := .slice _ _ _) rfl) ?_
  refine SeqK.q rfl (q_move (v := .int _ _) rfl) ?_
  refine SeqK.q rfl (q_indexAddrV0 Try.underlying85 (by kernel_rfl) rfl rfl (by omega) (by omega)) ?_
  refine SeqK.q rfl (q_loadN (by kernel_rfl) rfl (by exact Hp.set_self) (by simp only [nums_length, List.length_set, List.length_replicate, List.length_take, List.length_drop, List.length_append, List.length_cons, List.length_nil, ofB_length, toB_length]; omega)) ?_
  refine SeqK.q rfl (q_xor rfl rfl) ?_
  refine SeqK.q rfl (o_call rfl Try.func83 rfl rfl (rolledR_con _ _ (by omega))) ?_
  refine SeqK.done ?_
  refine OpsW.q rfl (q_indexAddrV0 Try.underlying85 (by kernel_rfl) rfl rfl (by omega) (by omega)) ?_
  refine OpsW.s (o_storeN1 (by kernel_rfl) rfl rfl (by simp only [nums_length, List.length_set, List.length_replicate, List.length_take, List.length_drop, List.length_append, List.length_cons, List.length_nil, ofB_length, toB_length]; omega)) ?_
  refine OpsW.nil ?_
  refine SeqP.go ?_
  refine AW.seq ?_
  refine AW.drawK [] 11 rfl (by kernel_rfl) ?_
  refine SeqK.q rfl (q_move (v := .slice _ _ _) rfl) ?_
  refine SeqK.q rfl (q_move (v := .int _ _) rfl) ?_
  refine SeqK.q rfl (q_move (v := .slice _ _ _) rfl) ?_
  refine SeqK.q rfl (q_move (v := .int _ _) rfl) ?_
  refine SeqK.q rfl (q_indexAddrV0 Try.underlying85 (by kernel_rfl) rfl rfl (by omega) (by omega)) ?_
  refine SeqK.q rfl (q_loadN (by kernel_rfl) rfl (by exact Hp.set_self) (by simp only [nums_length, List.length_set, List.length_replicate, List.length_take, List.length_drop, List.length_append, List.length_cons, List.length_nil, ofB_length, toB_length]; omega)) ?_
  refine SeqK.q rfl (q_move (v := .slice _ _ _) rfl) ?_
  refine SeqK.q rfl (q_move (v := .int _ _) rfl) ?_
  refine SeqK.q rfl (q_indexAddrV0 Try.underlying85 (by kernel_rfl) rfl rfl (by omega) (by omega)) ?_
  refine SeqK.q rfl (q_loadN (by kernel_rfl) rfl (by exact Hp.set_self) (by simp only [nums_length, List.length_set, List.length_replicate, List.length_take, List.length_drop, List.length_append, List.length_cons, List.length_nil, ofB_length, toB_length]; omega)) ?_
  refine SeqK.q rfl (q_add rfl rfl) ?_
  refine SeqK.done ?_
  refine OpsW.q rfl (q_indexAddrV0 Try.underlying85 (by kernel_rfl) rfl rfl (by omega) (by omega)) ?_
  refine OpsW.s (o_storeN1 (by kernel_rfl) rfl rfl (by simp only [nums_length, List.length_set, List.length_replicate, List.length_take, List.length_drop, List.length_append, List.length_cons, List.length_nil, ofB_length, toB_length]; omega)) ?_
  refine OpsW.nil ?_
  refine SeqP.go ?_
  refine AW.drawK [] 12 rfl (by kernel_rfl) ?_
  refine SeqK.q rfl (q_move (v := .slice _ _ _) rfl) ?_
  refine SeqK.q rfl (q_move (v := .int _ _) rfl) ?_
  refine SeqK.q rfl (q_move (v := .slice _ _ _) rfl) ?_
  refine SeqK.q rfl (q_move (v := .int _ _) rfl) ?_
  refine SeqK.q rfl (q_indexAddrV0 Try.underlying85 (by kernel_rfl) rfl rfl (by omega) (by omega)) ?_
  refine SeqK.q rfl (q_loadN (by kernel_rfl) rfl (by exact Hp.set_self) (by simp only [nums_length, List.length_set, List.length_replicate, List.length_take, List.length_drop, List.length_append, List.length_cons, List.length_nil, ofB_length, toB_length]; omega)) ?_
  refine SeqK.q rfl (q_move (v := .slice _ _ _) rfl) ?_
  refine SeqK.q rfl (q_move (v := .int _ _) rfl) ?_
  refine SeqK.q rfl (q_indexAddrV0 Try.underlying85 (by kernel_rfl) rfl rfl (by omega) (by omega)) ?_
  refine SeqK.q rfl (q_loadN (by kernel_rfl) rfl (by exact Hp.set_self) (by simp only [nums_length, List.length_set, List.length_replicate, List.length_take, List.length_drop, List.length_append, List.length_cons, List.length_nil, ofB_length, toB_length]; omega)) ?_
  refine SeqK.q rfl (q_xor rfl rfl) ?_
  refine SeqK.q rfl (o_call rfl Try.func83 rfl rfl (rolledR_con _ _ (by omega))) ?_
  refine SeqK.done ?_
  refine OpsW.q rfl (q_indexAddrV0 Try.underlying85 (by kernel_rfl) rfl rfl (by omega) (by omega)) ?_
  refine OpsW.s (o_storeN1 (by kernel_rfl) rfl rfl (by simp only [nums_length, List.length_set, List.length_replicate, List.length_take, List.length_drop, List.length_append, List.length_cons, List.length_nil, ofB_length, toB_length]; omega)) ?_
  refine OpsW.nil ?_
  refine RetP.end0 (H' := _) rfl (by exact (Hp.le_refl _)) ?_
  exact ⟨rfl, by unfold quarter; rfl⟩
theorem numbers_con (s : List UInt8) (m : Nat) (hs : s.length = 4 * m) (hm : m ≤ 1000) : Con Try.prog w0 67 #[S s] H (fun v H' => Grew H 52 1 nilV m (nums .u32 (words s m)) v H') := by
  refine Con.intro Try.func67 rfl rfl ?_
  refine AW.seq ?_
  refine AW.region ?_
  refine OpsW.q rfl (q_assign (v := .slice _ _ _) rfl) ?_
  refine OpsW.nil ?_
  refine SeqP.go ?_
  refine AW.seq ?_
  refine AW.region ?_
  refine OpsW.q rfl (q_assign (v := .slice _ _ _) rfl) ?_
  refine OpsW.nil ?_
  refine SeqP.go ?_
  refine AW.seq ?_
  refine AW.seq ?_
  refine AW.region ?_
  refine OpsW.q rfl (q_assign (v := .int _ _) rfl) ?_
  refine OpsW.nil ?_
  refine SeqP.go ?_
  refine AW.block ?_
  refine AW.loop (fun m e H' => ∃ (k : Nat) (v : Value) (e0 : Env), m = s.length - 4 * k ∧ (4 * k ≤ s.length) ∧ e = upds e0 [(0, S s), (3, v), (4, .int .i64 ((4 * k : Nat) : Int))] ∧ Grew H 52 1 nilV k (nums .u32 (words s k)) v H') _ ⟨0, nilV, _, rfl, (by omega), Slots.eq ⟨(by rfl), (by rfl), (by rfl),  trivial⟩, (by rw [words_zero]; exact Grew.nil)⟩ ?_
  rintro m _ H1 ⟨k, v, e0, rfl, hf, rfl, hG⟩
  have hwl := words_length s k
  refine AW.seq ?_
  refine AW.seq ?_
  refine AW.region ?_
  refine OpsW.q rfl (q_move (v := .int _ _) rfl) ?_
  refine OpsW.q rfl (q_move (v := S _) rfl) ?_
  refine OpsW.q rfl (q_lenS Try.underlying9 rfl) ?_
  refine OpsW.q rfl (q_lss rfl rfl) ?_
  refine OpsW.nil ?_
  refine SeqP.go ?_
  refine AW.cond2 rfl (fun h0 => ?_) (fun h0 => ?_)
  ·
    try simp only [decide_eq_true_eq, decide_eq_false_iff_not, Bool.or_eq_true, Bool.and_eq_true, Bool.or_eq_false_iff, Bool.and_eq_false_imp, Bool.not_eq_true', Bool.not_eq_false', ne_eq, Decidable.not_not, Int.not_lt, Int.not_le, Bool.not_eq_true, Bool.not_eq_false] at h0
    refine AW.exit ?_
    refine SeqP.exit ?_
    refine LoopP.exit ?_
    obtain rfl : k = m := by omega
    refine BlockP.here ?_
    refine SeqP.go ?_
    refine AW.seq ?_
    refine AW.region ?_
    refine OpsW.q rfl (q_move (v := v) rfl) ?_
    refine OpsW.q rfl (q_assign (v := v) rfl) ?_
    refine OpsW.nil ?_
    refine SeqP.go ?_
    refine AW.ret ?_
    refine RetP.mk1 (H' := H1) (v1 := v) rfl rfl  (by exact (Hp.le_refl _)) ?_
    exact hG
  try simp only [decide_eq_true_eq, decide_eq_false_iff_not, Bool.or_eq_true, Bool.and_eq_true, Bool.or_eq_false_iff, Bool.and_eq_false_imp, Bool.not_eq_true', Bool.not_eq_false', ne_eq, Decidable.not_not, Int.not_lt, Int.not_le, Bool.not_eq_true, Bool.not_eq_false] at h0
  refine AW.skip ?_
  refine SeqP.go ?_
  refine AW.seq ?_
  refine AW.block ?_
  refine AW.drawK [0] 26 rfl (by kernel_rfl) ?_
  refine SeqK.q rfl (q_move (v := v) rfl) ?_
  refine SeqK.q rfl (q_move (v := S _) rfl) ?_
  refine SeqK.q rfl (q_move (v := .int _ _) rfl) ?_
  refine SeqK.q rfl (q_indexS Try.underlying9 rfl rfl (by omega) (by omega)) ?_
  refine SeqK.q rfl (q_convInt rfl Try.underlying52 rfl) ?_
  refine SeqK.q rfl (q_move (v := S _) rfl) ?_
  refine SeqK.q rfl (q_move (v := .int _ _) rfl) ?_
  refine SeqK.q rfl (q_addI rfl rfl (by omega)) ?_
  refine SeqK.q rfl (q_indexS Try.underlying9 rfl rfl (by omega) (by omega)) ?_
  refine SeqK.q rfl (q_convInt rfl Try.underlying52 rfl) ?_
  refine SeqK.q rfl (q_shl rfl rfl (by omega)) ?_
  refine SeqK.q rfl (q_or rfl rfl) ?_
  refine SeqK.q rfl (q_move (v := S _) rfl) ?_
  refine SeqK.q rfl (q_move (v := .int _ _) rfl) ?_
  refine SeqK.q rfl (q_addI rfl rfl (by omega)) ?_
  refine SeqK.q rfl (q_indexS Try.underlying9 rfl rfl (by omega) (by omega)) ?_
  refine SeqK.q rfl (q_convInt rfl Try.underlying52 rfl) ?_
  refine SeqK.q rfl (q_shl rfl rfl (by omega)) ?_
  refine SeqK.q rfl (q_or rfl rfl) ?_
  refine SeqK.q rfl (q_move (v := S _) rfl) ?_
  refine SeqK.q rfl (q_move (v := .int _ _) rfl) ?_
  refine SeqK.q rfl (q_addI rfl rfl (by omega)) ?_
  refine SeqK.q rfl (q_indexS Try.underlying9 rfl rfl (by omega) (by omega)) ?_
  refine SeqK.q rfl (q_convInt rfl Try.underlying52 rfl) ?_
  refine SeqK.q rfl (q_shl rfl rfl (by omega)) ?_
  refine SeqK.q rfl (q_or rfl rfl) ?_
  refine SeqK.done ?_
  refine OpsW.m rfl (o_buildSlice (z := .int .u32 0) (vs := [.int _ _]) Try.underlying85 (by kernel_rfl) (by kernel_rfl) rfl (by rfl) (by rfl) (by decide) rfl (ones_all rfl)) ?_
  rintro _ _ ⟨b37, hb37, rfl, rfl⟩
  refine OpsW.m rfl (o_append (sz := 1) (by_ := 4) (z := .int .u32 0) Try.underlying85 (by kernel_rfl) (by kernel_rfl) (by kernel_rfl) rfl (by kernel_rfl) rfl rfl (hG.vec.le (by exact (Hp.le_set (by first | assumption | exact Hp.set_none (by assumption) (by first | assumption | exact Ne.symm (by assumption)) | exact Hp.set_none (Hp.set_none (by assumption) (by first | assumption | exact Ne.symm (by assumption))) (by first | assumption | exact Ne.symm (by assumption))) (Hp.le_refl _)))) (src_lit (by exact Hp.set_self) rfl (ones_all rfl)) (by unfold maxLen; omega) (by omega)) ?_
  rintro v38 H38 hA38
  obtain ⟨H38b, hl38, hB38⟩ := Grew.step hG (by exact (Hp.le_set (by first | assumption | exact Hp.set_none (by assumption) (by first | assumption | exact Ne.symm (by assumption)) | exact Hp.set_none (Hp.set_none (by assumption) (by first | assumption | exact Ne.symm (by assumption))) (by first | assumption | exact Ne.symm (by assumption))) (Hp.le_refl _))) hA38
  refine OpsW.forget hl38 ?_
  clear hA38 hl38
  refine OpsW.q rfl (q_assign (v := v38) rfl) ?_
  refine OpsW.nil ?_
  refine BlockP.go ?_
  refine SeqP.go ?_
  refine AW.region ?_
  refine OpsW.q rfl (q_move (v := .int _ _) rfl) ?_
  refine OpsW.q rfl (q_addI rfl rfl (by omega)) ?_
  refine OpsW.q rfl (q_assign (v := .int _ _) rfl) ?_
  refine OpsW.nil ?_
  exact LoopP.go _ (by omega) ⟨k + 1, v38, _, rfl, (by omega), Slots.eq ⟨(by rfl), (by rfl), (by rfl),  trivial⟩, (hB38.cast rfl (by rw [words_succ, nums_snoc, word_at]; simp only [show (((4 * k : Nat) : Int) + 1).toNat = 4 * k + 1 from by omega, show (((4 * k : Nat) : Int) + 2).toNat = 4 * k + 2 from by omega, show (((4 * k : Nat) : Int) + 3).toNat = 4 * k + 3 from by omega, Int.toNat_natCast]; rfl))⟩
theorem blockR_con (key nonce : List UInt8) (n : Int) : Con Try.prog w0 41 #[S key, S nonce, .int .i64 n] H
      (fun v H' => v = .tuple #[S (blockP key nonce n).1, .int .i64 (blockP key nonce n).2] ∧ H' = H) := by
  refine Con.intro Try.func41 rfl rfl ?_
  refine AW.seq ?_
  refine AW.region ?_
  refine OpsW.q rfl (q_assign (v := S _) rfl) ?_
  refine OpsW.q rfl (q_assign (v := .int _ _) rfl) ?_
  refine OpsW.nil ?_
  refine SeqP.go ?_
  refine AW.seq ?_
  refine AW.seq ?_
  refine AW.region ?_
  refine OpsW.q rfl (q_move (v := S _) rfl) ?_
  refine OpsW.q rfl (q_lenS Try.underlying9 rfl) ?_
  refine OpsW.q rfl (q_neq rfl rfl) ?_
  refine OpsW.qb rfl (q_move (v := .bool _) rfl) ?_
  intro b17 eb17
  refine OpsW.g rfl rfl rfl (fun hB => by simp only [Bool.and_eq_true, beq_iff_eq] at hB; obtain rfl := hB; exact (q_move (v := S _) rfl)) ?_
  refine OpsW.g rfl rfl rfl (fun hB => by simp only [Bool.and_eq_true, beq_iff_eq] at hB; obtain rfl := hB; exact (q_lenS Try.underlying9 rfl)) ?_
  refine OpsW.g rfl rfl rfl (fun hB => by simp only [Bool.and_eq_true, beq_iff_eq] at hB; obtain rfl := hB; exact (q_neq rfl rfl)) ?_
  refine OpsW.q rfl (q_or2 rfl rfl rfl) ?_
  refine OpsW.nil ?_
  refine SeqP.go ?_
  refine AW.cond rfl (fun h0 => ?_) (fun h0 => ?_)
  ·
    try simp only [eb17, decide_eq_true_eq, decide_eq_false_iff_not, Bool.or_eq_true, Bool.and_eq_true, Bool.or_eq_false_iff, Bool.and_eq_false_imp, Bool.not_eq_true', Bool.not_eq_false', ne_eq, Decidable.not_not, Int.not_lt, Int.not_le, Bool.not_eq_true, Bool.not_eq_false] at h0
    have hw : wrong key nonce n = 21 := wrong_key (by simp_all <;> omega)
    refine AW.seq ?_
    refine AW.region ?_
    refine OpsW.q rfl (q_assign (v := S _) rfl) ?_
    refine OpsW.q rfl (q_assign (v := .int _ _) rfl) ?_
    refine OpsW.nil ?_
    refine SeqP.go ?_
    refine AW.ret ?_
    refine SeqP.ret ?_
    refine RetP.mk2 (H' := H) (v1 := S _) (v2 := .int _ _) rfl rfl rfl  (by first | exact Hp.le_refl _ | exact Hp.le_trans (by first | exact (Hp.le_refl _) | exact (Hp.le_set (by first | assumption | exact Hp.set_none (by assumption) (by first | assumption | exact Ne.symm (by assumption)) | exact Hp.set_none (Hp.set_none (by assumption) (by first | assumption | exact Ne.symm (by assumption))) (by first | assumption | exact Ne.symm (by assumption))) (Hp.le_refl _)) | exact (Hp.le_set (by first | assumption | exact Hp.set_none (by assumption) (by first | assumption | exact Ne.symm (by assumption)) | exact Hp.set_none (Hp.set_none (by assumption) (by first | assumption | exact Ne.symm (by assumption))) (by first | assumption | exact Ne.symm (by assumption))) (Hp.le_set (by first | assumption | exact Hp.set_none (by assumption) (by first | assumption | exact Ne.symm (by assumption)) | exact Hp.set_none (Hp.set_none (by assumption) (by first | assumption | exact Ne.symm (by assumption))) (by first | assumption | exact Ne.symm (by assumption))) (Hp.le_refl _))) | exact (Hp.le_set (by first | assumption | exact Hp.set_none (by assumption) (by first | assumption | exact Ne.symm (by assumption)) | exact Hp.set_none (Hp.set_none (by assumption) (by first | assumption | exact Ne.symm (by assumption))) (by first | assumption | exact Ne.symm (by assumption))) (Hp.le_set (by first | assumption | exact Hp.set_none (by assumption) (by first | assumption | exact Ne.symm (by assumption)) | exact Hp.set_none (Hp.set_none (by assumption) (by first | assumption | exact Ne.symm (by assumption))) (by first | assumption | exact Ne.symm (by assumption))) (Hp.le_set (by first | assumption | exact Hp.set_none (by assumption) (by first | assumption | exact Ne.symm (by assumption)) | exact Hp.set_none (Hp.set_none (by assumption) (by first | assumption | exact Ne.symm (by assumption))) (by first | assumption | exact Ne.symm (by assumption))) (Hp.le_refl _)))) | exact (Hp.le_set (by first | assumption | exact Hp.set_none (by assumption) (by first | assumption | exact Ne.symm (by assumption)) | exact Hp.set_none (Hp.set_none (by assumption) (by first | assumption | exact Ne.symm (by assumption))) (by first | assumption | exact Ne.symm (by assumption))) (Hp.le_set (by first | assumption | exact Hp.set_none (by assumption) (by first | assumption | exact Ne.symm (by assumption)) | exact Hp.set_none (Hp.set_none (by assumption) (by first | assumption | exact Ne.symm (by assumption))) (by first | assumption | exact Ne.symm (by assumption))) (Hp.le_set (by first | assumption | exact Hp.set_none (by assumption) (by first | assumption | exact Ne.symm (by assumption)) | exact Hp.set_none (Hp.set_none (by assumption) (by first | assumption | exact Ne.symm (by assumption))) (by first | assumption | exact Ne.symm (by assumption))) (Hp.le_set (by first | assumption | exact Hp.set_none (by assumption) (by first | assumption | exact Ne.symm (by assumption)) | exact Hp.set_none (Hp.set_none (by assumption) (by first | assumption | exact Ne.symm (by assumption))) (by first | assumption | exact Ne.symm (by assumption))) (Hp.le_refl _))))) | exact (Hp.le_set (by first | assumption | exact Hp.set_none (by assumption) (by first | assumption | exact Ne.symm (by assumption)) | exact Hp.set_none (Hp.set_none (by assumption) (by first | assumption | exact Ne.symm (by assumption))) (by first | assumption | exact Ne.symm (by assumption))) (Hp.le_set (by first | assumption | exact Hp.set_none (by assumption) (by first | assumption | exact Ne.symm (by assumption)) | exact Hp.set_none (Hp.set_none (by assumption) (by first | assumption | exact Ne.symm (by assumption))) (by first | assumption | exact Ne.symm (by assumption))) (Hp.le_set (by first | assumption | exact Hp.set_none (by assumption) (by first | assumption | exact Ne.symm (by assumption)) | exact Hp.set_none (Hp.set_none (by assumption) (by first | assumption | exact Ne.symm (by assumption))) (by first | assumption | exact Ne.symm (by assumption))) (Hp.le_set (by first | assumption | exact Hp.set_none (by assumption) (by first | assumption | exact Ne.symm (by assumption)) | exact Hp.set_none (Hp.set_none (by assumption) (by first | assumption | exact Ne.symm (by assumption))) (by first | assumption | exact Ne.symm (by assumption))) (Hp.le_set (by first | assumption | exact Hp.set_none (by assumption) (by first | assumption | exact Ne.symm (by assumption)) | exact Hp.set_none (Hp.set_none (by assumption) (by first | assumption | exact Ne.symm (by assumption))) (by first | assumption | exact Ne.symm (by assumption))) (Hp.le_refl _))))))) hG.le) ?_
    exact ⟨by first | rw [blockP_bad (by rw [hw]; decide), hw] | (rw [blockP_ok hw, stirred_outR, List.take_of_length_le (by rw [outR_length]; exact Nat.le_refl _)]), rfl⟩
  try simp only [eb17, decide_eq_true_eq, decide_eq_false_iff_not, Bool.or_eq_true, Bool.and_eq_true, Bool.or_eq_false_iff, Bool.and_eq_false_imp, Bool.not_eq_true', Bool.not_eq_false', ne_eq, Decidable.not_not, Int.not_lt, Int.not_le, Bool.not_eq_true, Bool.not_eq_false] at h0
  have hk : key.length = 32 := by simp_all <;> omega
  have hn : nonce.length = 12 := by simp_all <;> omega
  refine AW.skip ?_
  refine SeqP.go ?_
  refine AW.seq ?_
  refine AW.seq ?_
  refine AW.region ?_
  refine OpsW.q rfl (q_move (v := .int _ _) rfl) ?_
  refine OpsW.q rfl (q_lss rfl rfl) ?_
  refine OpsW.qb rfl (q_move (v := .bool _) rfl) ?_
  intro b24 eb24
  refine OpsW.g rfl rfl rfl (fun hB => by simp only [Bool.and_eq_true, beq_iff_eq] at hB; obtain rfl := hB; exact (q_move (v := .int _ _) rfl)) ?_
  refine OpsW.g rfl rfl rfl (fun hB => by simp only [Bool.and_eq_true, beq_iff_eq] at hB; obtain rfl := hB; exact (q_gtr rfl rfl)) ?_
  refine OpsW.q rfl (q_or2 rfl rfl rfl) ?_
  refine OpsW.nil ?_
  refine SeqP.go ?_
  refine AW.cond rfl (fun h1 => ?_) (fun h1 => ?_)
  ·
    try simp only [eb17, eb24, decide_eq_true_eq, decide_eq_false_iff_not, Bool.or_eq_true, Bool.and_eq_true, Bool.or_eq_false_iff, Bool.and_eq_false_imp, Bool.not_eq_true', Bool.not_eq_false', ne_eq, Decidable.not_not, Int.not_lt, Int.not_le, Bool.not_eq_true, Bool.not_eq_false] at h1
    have hw : wrong key nonce n = 1 := wrong_arg hk hn (by simp_all <;> omega)
    refine AW.seq ?_
    refine AW.region ?_
    refine OpsW.q rfl (q_assign (v := S _) rfl) ?_
    refine OpsW.q rfl (q_assign (v := .int _ _) rfl) ?_
    refine OpsW.nil ?_
    refine SeqP.go ?_
    refine AW.ret ?_
    refine SeqP.ret ?_
    refine RetP.mk2 (H' := H) (v1 := S _) (v2 := .int _ _) rfl rfl rfl  (by first | exact Hp.le_refl _ | exact Hp.le_trans (by first | exact (Hp.le_refl _) | exact (Hp.le_set (by first | assumption | exact Hp.set_none (by assumption) (by first | assumption | exact Ne.symm (by assumption)) | exact Hp.set_none (Hp.set_none (by assumption) (by first | assumption | exact Ne.symm (by assumption))) (by first | assumption | exact Ne.symm (by assumption))) (Hp.le_refl _)) | exact (Hp.le_set (by first | assumption | exact Hp.set_none (by assumption) (by first | assumption | exact Ne.symm (by assumption)) | exact Hp.set_none (Hp.set_none (by assumption) (by first | assumption | exact Ne.symm (by assumption))) (by first | assumption | exact Ne.symm (by assumption))) (Hp.le_set (by first | assumption | exact Hp.set_none (by assumption) (by first | assumption | exact Ne.symm (by assumption)) | exact Hp.set_none (Hp.set_none (by assumption) (by first | assumption | exact Ne.symm (by assumption))) (by first | assumption | exact Ne.symm (by assumption))) (Hp.le_refl _))) | exact (Hp.le_set (by first | assumption | exact Hp.set_none (by assumption) (by first | assumption | exact Ne.symm (by assumption)) | exact Hp.set_none (Hp.set_none (by assumption) (by first | assumption | exact Ne.symm (by assumption))) (by first | assumption | exact Ne.symm (by assumption))) (Hp.le_set (by first | assumption | exact Hp.set_none (by assumption) (by first | assumption | exact Ne.symm (by assumption)) | exact Hp.set_none (Hp.set_none (by assumption) (by first | assumption | exact Ne.symm (by assumption))) (by first | assumption | exact Ne.symm (by assumption))) (Hp.le_set (by first | assumption | exact Hp.set_none (by assumption) (by first | assumption | exact Ne.symm (by assumption)) | exact Hp.set_none (Hp.set_none (by assumption) (by first | assumption | exact Ne.symm (by assumption))) (by first | assumption | exact Ne.symm (by assumption))) (Hp.le_refl _)))) | exact (Hp.le_set (by first | assumption | exact Hp.set_none (by assumption) (by first | assumption | exact Ne.symm (by assumption)) | exact Hp.set_none (Hp.set_none (by assumption) (by first | assumption | exact Ne.symm (by assumption))) (by first | assumption | exact Ne.symm (by assumption))) (Hp.le_set (by first | assumption | exact Hp.set_none (by assumption) (by first | assumption | exact Ne.symm (by assumption)) | exact Hp.set_none (Hp.set_none (by assumption) (by first | assumption | exact Ne.symm (by assumption))) (by first | assumption | exact Ne.symm (by assumption))) (Hp.le_set (by first | assumption | exact Hp.set_none (by assumption) (by first | assumption | exact Ne.symm (by assumption)) | exact Hp.set_none (Hp.set_none (by assumption) (by first | assumption | exact Ne.symm (by assumption))) (by first | assumption | exact Ne.symm (by assumption))) (Hp.le_set (by first | assumption | exact Hp.set_none (by assumption) (by first | assumption | exact Ne.symm (by assumption)) | exact Hp.set_none (Hp.set_none (by assumption) (by first | assumption | exact Ne.symm (by assumption))) (by first | assumption | exact Ne.symm (by assumption))) (Hp.le_refl _))))) | exact (Hp.le_set (by first | assumption | exact Hp.set_none (by assumption) (by first | assumption | exact Ne.symm (by assumption)) | exact Hp.set_none (Hp.set_none (by assumption) (by first | assumption | exact Ne.symm (by assumption))) (by first | assumption | exact Ne.symm (by assumption))) (Hp.le_set (by first | assumption | exact Hp.set_none (by assumption) (by first | assumption | exact Ne.symm (by assumption)) | exact Hp.set_none (Hp.set_none (by assumption) (by first | assumption | exact Ne.symm (by assumption))) (by first | assumption | exact Ne.symm (by assumption))) (Hp.le_set (by first | assumption | exact Hp.set_none (by assumption) (by first | assumption | exact Ne.symm (by assumption)) | exact Hp.set_none (Hp.set_none (by assumption) (by first | assumption | exact Ne.symm (by assumption))) (by first | assumption | exact Ne.symm (by assumption))) (Hp.le_set (by first | assumption | exact Hp.set_none (by assumption) (by first | assumption | exact Ne.symm (by assumption)) | exact Hp.set_none (Hp.set_none (by assumption) (by first | assumption | exact Ne.symm (by assumption))) (by first | assumption | exact Ne.symm (by assumption))) (Hp.le_set (by first | assumption | exact Hp.set_none (by assumption) (by first | assumption | exact Ne.symm (by assumption)) | exact Hp.set_none (Hp.set_none (by assumption) (by first | assumption | exact Ne.symm (by assumption))) (by first | assumption | exact Ne.symm (by assumption))) (Hp.le_refl _))))))) hG.le) ?_
    exact ⟨by first | rw [blockP_bad (by rw [hw]; decide), hw] | (rw [blockP_ok hw, stirred_outR, List.take_of_length_le (by rw [outR_length]; exact Nat.le_refl _)]), rfl⟩
  try simp only [eb17, eb24, decide_eq_true_eq, decide_eq_false_iff_not, Bool.or_eq_true, Bool.and_eq_true, Bool.or_eq_false_iff, Bool.and_eq_false_imp, Bool.not_eq_true', Bool.not_eq_false', ne_eq, Decidable.not_not, Int.not_lt, Int.not_le, Bool.not_eq_true, Bool.not_eq_false] at h1
  have hw : wrong key nonce n = 0 := wrong_none hk hn (by simp_all <;> omega)
  have hsl := started_length key nonce n
  refine AW.skip ?_
  refine SeqP.go ?_
  refine AW.seq ?_
  refine AW.region ?_
  refine OpsW.m rfl (o_buildSlice (z := .int .u32 0) (vs := [.int _ _, .int _ _, .int _ _, .int _ _]) Try.underlying85 (by kernel_rfl) (by kernel_rfl) rfl (by rfl) (by rfl) (by decide) rfl (ones_all rfl)) ?_
  rintro _ _ ⟨b28, hb28, rfl, rfl⟩
  have hB28 := Grew.made (el := 52) (m := 4) (cs := nums .u32 [1634760805, 857760878, 2036477234, 1797285236]) hb28 rfl (by decide)
  refine OpsW.q rfl (q_assign (v := .slice _ _ _) rfl) ?_
  refine OpsW.nil ?_
  refine SeqP.go ?_
  refine AW.seq ?_
  refine AW.region ?_
  refine OpsW.q rfl (q_move (v := .slice _ _ _) rfl) ?_
  refine OpsW.q rfl (q_move (v := S _) rfl) ?_
  refine OpsW.m rfl (o_call rfl Try.func67 rfl rfl (numbers_con _ 8 (by omega) (by omega))) ?_
  rintro v31 H31 hB31
  refine OpsW.m rfl (o_append (sz := 1) (by_ := 4) (z := .int .u32 0) Try.underlying85 (by kernel_rfl) (by kernel_rfl) (by kernel_rfl) rfl (by kernel_rfl) rfl rfl (hB28.vec.le hB31.le) (src_vec hB31.vec (nums_one _ _)) (by unfold maxLen; omega) (by omega)) ?_
  rintro v32 H32 hA32
  obtain ⟨H32b, hl32, hB32⟩ := Grew.step hB28 hB31.le hA32
  refine OpsW.forget hl32 ?_
  clear hA32 hl32
  refine OpsW.q rfl (q_assign (v := v32) rfl) ?_
  refine OpsW.nil ?_
  refine SeqP.go ?_
  refine AW.seq ?_
  refine AW.region ?_
  refine OpsW.q rfl (q_move (v := v32) rfl) ?_
  refine OpsW.q rfl (q_move (v := .int _ _) rfl) ?_
  refine OpsW.q rfl (q_convInt rfl Try.underlying52 rfl) ?_
  refine OpsW.m rfl (o_buildSlice (z := .int .u32 0) (vs := [.int _ _]) Try.underlying85 (by kernel_rfl) (by kernel_rfl) rfl (by rfl) (by rfl) (by decide) rfl (ones_all rfl)) ?_
  rintro _ _ ⟨b36, hb36, rfl, rfl⟩
  refine OpsW.m rfl (o_append (sz := 1) (by_ := 4) (z := .int .u32 0) Try.underlying85 (by kernel_rfl) (by kernel_rfl) (by kernel_rfl) rfl (by kernel_rfl) rfl rfl (hB32.vec.le (by exact (Hp.le_set (by first | assumption | exact Hp.set_none (by assumption) (by first | assumption | exact Ne.symm (by assumption)) | exact Hp.set_none (Hp.set_none (by assumption) (by first | assumption | exact Ne.symm (by assumption))) (by first | assumption | exact Ne.symm (by assumption))) (Hp.le_refl _)))) (src_lit (by exact Hp.set_self) rfl (ones_all rfl)) (by unfold maxLen; omega) (by omega)) ?_
  rintro v37 H37 hA37
  obtain ⟨H37b, hl37, hB37⟩ := Grew.step hB32 (by exact (Hp.le_set (by first | assumption | exact Hp.set_none (by assumption) (by first | assumption | exact Ne.symm (by assumption)) | exact Hp.set_none (Hp.set_none (by assumption) (by first | assumption | exact Ne.symm (by assumption))) (by first | assumption | exact Ne.symm (by assumption))) (Hp.le_refl _))) hA37
  refine OpsW.forget hl37 ?_
  clear hA37 hl37
  refine OpsW.q rfl (q_assign (v := v37) rfl) ?_
  refine OpsW.nil ?_
  refine SeqP.go ?_
  refine AW.seq ?_
  refine AW.region ?_
  refine OpsW.q rfl (q_move (v := v37) rfl) ?_
  refine OpsW.q rfl (q_move (v := S _) rfl) ?_
  refine OpsW.m rfl (o_call rfl Try.func67 rfl rfl (numbers_con _ 3 (by omega) (by omega))) ?_
  rintro v40 H40 hB40
  refine OpsW.m rfl (o_append (sz := 1) (by_ := 4) (z := .int .u32 0) Try.underlying85 (by kernel_rfl) (by kernel_rfl) (by kernel_rfl) rfl (by kernel_rfl) rfl rfl (hB37.vec.le hB40.le) (src_vec hB40.vec (nums_one _ _)) (by unfold maxLen; omega) (by omega)) ?_
  rintro v41 H41 hA41
  obtain ⟨H41b, hl41, hB41⟩ := Grew.step hB37 hB40.le hA41
  refine OpsW.forget hl41 ?_
  clear hA41 hl41
  obtain ⟨bf, cf, sf, rfl, hbf, rfl⟩ := (Grew.cast hB41 (cs' := nums .u32 (started key nonce n)) rfl (by rw [started_eq]; simp [nums, words_length] <;> rfl)).block (by decide)
  clear hB28 hB31 hB32 hB37 hB40 hB41
  refine OpsW.q rfl (q_assign (v := .slice _ _ _) rfl) ?_
  refine OpsW.nil ?_
  refine SeqP.go ?_
  refine AW.seq ?_
  refine AW.region ?_
  refine OpsW.q rfl (q_assign (v := .slice _ _ _) rfl) ?_
  refine OpsW.nil ?_
  refine SeqP.go ?_
  refine AW.seq ?_
  refine AW.region ?_
  refine OpsW.q rfl (q_move (v := .slice _ _ _) rfl) ?_
  refine OpsW.q rfl (q_move (v := .slice _ _ _) rfl) ?_
  refine OpsW.m rfl (o_append (sz := 1) (by_ := 4) (z := .int .u32 0) Try.underlying85 (by kernel_rfl) (by kernel_rfl) (by kernel_rfl) rfl (by kernel_rfl) rfl rfl (.inl ⟨rfl, rfl, rfl⟩) (src_lit (m := 16) (vs := nums .u32 (started key nonce n)) Hp.set_self (by rw [nums_length]; exact hsl) (nums_one _ _)) (by unfold maxLen; omega) (by omega)) ?_
  rintro v44 H44 hA44
  obtain ⟨bv, cv, sv, rfl, hbv, rfl⟩ := (Grew.cast hA44 (cs' := nums .u32 (started key nonce n)) rfl (by rw [List.nil_append])).block (by decide)
  clear hA44
  obtain ⟨hbv0, hvf⟩ := Hp.none_set hbv
  refine OpsW.q rfl (q_assign (v := .slice _ _ _) rfl) ?_
  refine OpsW.nil ?_
  refine SeqP.go ?_
  refine AW.seq ?_
  refine AW.seq ?_
  refine AW.region ?_
  refine OpsW.q rfl (q_assign (v := .int _ _) rfl) ?_
  refine OpsW.nil ?_
  refine SeqP.go ?_
  refine AW.block ?_
  refine AW.loop (fun m e H' => ∃ (i : Nat) (e0 : Env), m = 10 - i ∧ (i ≤ 10) ∧ e = upds e0 [(8, .slice (some ⟨bf, 0, none⟩) 16 cf), (9, .slice (some ⟨bv, 0, none⟩) 16 cv), (10, .int .i64 (i : Int))] ∧ H' = ((H.set bf ⟨nums .u32 (started key nonce n), sf, 52⟩).set bv ⟨nums .u32 (roundK (started key nonce n) i), sv, 52⟩)) _ ⟨0, _, rfl, (by omega), Slots.eq ⟨(by rfl), (by rfl), (by rfl),  trivial⟩, (by rw [roundK_zero])⟩ ?_
  rintro m _ _ ⟨i, e0, rfl, hf, rfl, rfl⟩
  have hr := roundK_length (started key nonce n) hsl i
  refine AW.seq ?_
  refine AW.seq ?_
  refine AW.region ?_
  refine OpsW.q rfl (q_move (v := .int _ _) rfl) ?_
  refine OpsW.q rfl (q_lss rfl rfl) ?_
  refine OpsW.nil ?_
  refine SeqP.go ?_
  refine AW.cond2 rfl (fun h2 => ?_) (fun h2 => ?_)
  ·
    try simp only [eb17, eb24, decide_eq_true_eq, decide_eq_false_iff_not, Bool.or_eq_true, Bool.and_eq_true, Bool.or_eq_false_iff, Bool.and_eq_false_imp, Bool.not_eq_true', Bool.not_eq_false', ne_eq, Decidable.not_not, Int.not_lt, Int.not_le, Bool.not_eq_true, Bool.not_eq_false] at h2
    refine AW.exit ?_
    refine SeqP.exit ?_
    refine LoopP.exit ?_
    obtain rfl : i = 10 := by omega
    refine BlockP.here ?_
    refine SeqP.go ?_
    refine AW.seq ?_
    refine AW.region ?_
    refine OpsW.q rfl (q_assign (v := .slice _ _ _) rfl) ?_
    refine OpsW.nil ?_
    refine SeqP.go ?_
    refine AW.seq ?_
    refine AW.seq ?_
    refine AW.region ?_
    refine OpsW.q rfl (q_assign (v := .int _ _) rfl) ?_
    refine OpsW.nil ?_
    refine SeqP.go ?_
    refine AW.block ?_
    refine AW.loop (fun m e H' => ∃ (i : Nat) (v : Value) (e0 : Env), m = 16 - i ∧ (i ≤ 16) ∧ e = upds e0 [(8, .slice (some ⟨bf, 0, none⟩) 16 cf), (9, .slice (some ⟨bv, 0, none⟩) 16 cv), (11, v), (12, .int .i64 (i : Int))] ∧ Grew ((H.set bf ⟨nums .u32 (started key nonce n), sf, 52⟩).set bv ⟨nums .u32 (roundK (started key nonce n) 10), sv, 52⟩) 5 1 nilV (4 * i) (nums .u8 (outR (started key nonce n) (4 * i))) v H') _ ⟨0, nilV, _, rfl, (by omega), Slots.eq ⟨(by rfl), (by rfl), (by rfl), (by rfl),  trivial⟩, (by rw [Nat.mul_zero, outR_zero]; exact Grew.nil)⟩ ?_
    rintro m _ H1 ⟨i, v, e0, rfl, hf, rfl, hG⟩
    have hbF : H1 bf = some _ := hG.old0 ((Hp.set_ne (Ne.symm hvf)).trans Hp.set_self)
    have hbV : H1 bv = some _ := hG.old0 Hp.set_self
    have hol := outR_length (started key nonce n) (4 * i)
    refine AW.seq ?_
    refine AW.seq ?_
    refine AW.region ?_
    refine OpsW.q rfl (q_move (v := .int _ _) rfl) ?_
    refine OpsW.q rfl (q_lss rfl rfl) ?_
    refine OpsW.nil ?_
    refine SeqP.go ?_
    refine AW.cond2 rfl (fun h3 => ?_) (fun h3 => ?_)
    ·
      try simp only [eb17, eb24, decide_eq_true_eq, decide_eq_false_iff_not, Bool.or_eq_true, Bool.and_eq_true, Bool.or_eq_false_iff, Bool.and_eq_false_imp, Bool.not_eq_true', Bool.not_eq_false', ne_eq, Decidable.not_not, Int.not_lt, Int.not_le, Bool.not_eq_true, Bool.not_eq_false] at h3
      refine AW.exit ?_
      refine SeqP.exit ?_
      refine LoopP.exit ?_
      obtain rfl : i = 16 := by omega
      refine BlockP.here ?_
      refine SeqP.go ?_
      refine AW.seq ?_
      refine AW.region ?_
      refine OpsW.q rfl (q_move (v := v) rfl) ?_
      refine OpsW.q rfl (q_stringV Try.underlying33 Try.underlying5 Try.underlying9 rfl hG.vec) ?_
      refine OpsW.q rfl (q_assign (v := S _) rfl) ?_
      refine OpsW.q rfl (q_assign (v := .int _ _) rfl) ?_
      refine OpsW.nil ?_
      refine SeqP.go ?_
      refine AW.ret ?_
      refine RetP.mk2 (H' := H) (v1 := S _) (v2 := .int _ _) rfl rfl rfl  (by first | exact Hp.le_refl _ | exact Hp.le_trans (by exact (Hp.le_set (by first | assumption | exact Hp.set_none (by assumption) (by first | assumption | exact Ne.symm (by assumption)) | exact Hp.set_none (Hp.set_none (by assumption) (by first | assumption | exact Ne.symm (by assumption))) (by first | assumption | exact Ne.symm (by assumption))) (Hp.le_set (by first | assumption | exact Hp.set_none (by assumption) (by first | assumption | exact Ne.symm (by assumption)) | exact Hp.set_none (Hp.set_none (by assumption) (by first | assumption | exact Ne.symm (by assumption))) (by first | assumption | exact Ne.symm (by assumption))) (Hp.le_refl _)))) hG.le) ?_
      exact ⟨by first | rw [blockP_bad (by rw [hw]; decide), hw] | (rw [blockP_ok hw, stirred_outR, List.take_of_length_le (by rw [outR_length]; exact Nat.le_refl _)]), rfl⟩
    try simp only [eb17, eb24, decide_eq_true_eq, decide_eq_false_iff_not, Bool.or_eq_true, Bool.and_eq_true, Bool.or_eq_false_iff, Bool.and_eq_false_imp, Bool.not_eq_true', Bool.not_eq_false', ne_eq, Decidable.not_not, Int.not_lt, Int.not_le, Bool.not_eq_true, Bool.not_eq_false] at h3
    refine AW.skip ?_
    refine SeqP.go ?_
    refine AW.seq ?_
    refine AW.block ?_
    refine AW.seq ?_
    refine AW.drawK [] 8 rfl (by kernel_rfl) ?_
    refine SeqK.q rfl (q_move (v := .slice _ _ _) rfl) ?_
    refine SeqK.q rfl (q_move (v := .int _ _) rfl) ?_
    refine SeqK.q rfl (q_indexAddrV0 Try.underlying85 (by kernel_rfl) rfl rfl (by omega) (by omega)) ?_
    refine SeqK.q rfl (q_loadN (by kernel_rfl) rfl (by exact (by assumption)) (by omega)) ?_
    refine SeqK.q rfl (q_move (v := .slice _ _ _) rfl) ?_
    refine SeqK.q rfl (q_move (v := .int _ _) rfl) ?_
    refine SeqK.q rfl (q_indexAddrV0 Try.underlying85 (by kernel_rfl) rfl rfl (by omega) (by omega)) ?_
    refine SeqK.q rfl (q_loadN (by kernel_rfl) rfl (by exact (by assumption)) (by omega)) ?_
    refine SeqK.done ?_
    refine OpsW.q rfl (q_add rfl rfl) ?_
    refine OpsW.q rfl (q_assign (v := .int _ _) rfl) ?_
    refine OpsW.nil ?_
    refine SeqP.go ?_
    refine AW.region ?_
    refine OpsW.q rfl (q_move (v := v) rfl) ?_
    refine OpsW.q rfl (q_move (v := .int _ _) rfl) ?_
    refine OpsW.q rfl (q_convInt rfl Try.underlying5 rfl) ?_
    refine OpsW.q rfl (q_move (v := .int _ _) rfl) ?_
    refine OpsW.q rfl (q_shr rfl rfl (by omega)) ?_
    refine OpsW.q rfl (q_convInt rfl Try.underlying5 rfl) ?_
    refine OpsW.q rfl (q_move (v := .int _ _) rfl) ?_
    refine OpsW.q rfl (q_shr rfl rfl (by omega)) ?_
    refine OpsW.q rfl (q_convInt rfl Try.underlying5 rfl) ?_
    refine OpsW.q rfl (q_move (v := .int _ _) rfl) ?_
    refine OpsW.q rfl (q_shr rfl rfl (by omega)) ?_
    refine OpsW.q rfl (q_convInt rfl Try.underlying5 rfl) ?_
    refine OpsW.m rfl (o_buildSlice (z := .int .u8 0) (vs := [.int _ _, .int _ _, .int _ _, .int _ _]) Try.underlying33 (by kernel_rfl) (by kernel_rfl) rfl (by rfl) (by rfl) (by decide) rfl (ones_all rfl)) ?_
    rintro _ _ ⟨b90, hb90, rfl, rfl⟩
    refine OpsW.m rfl (o_append (sz := 1) (by_ := 1) (z := .int .u8 0) Try.underlying33 (by kernel_rfl) (by kernel_rfl) (by kernel_rfl) rfl (by kernel_rfl) rfl rfl (hG.vec.le (by exact (Hp.le_set (by first | assumption | exact Hp.set_none (by assumption) (by first | assumption | exact Ne.symm (by assumption)) | exact Hp.set_none (Hp.set_none (by assumption) (by first | assumption | exact Ne.symm (by assumption))) (by first | assumption | exact Ne.symm (by assumption))) (Hp.le_refl _)))) (src_lit (by exact Hp.set_self) rfl (ones_all rfl)) (by unfold maxLen; omega) (by omega)) ?_
    rintro v91 H91 hA91
    obtain ⟨H91b, hl91, hB91⟩ := Grew.step hG (by exact (Hp.le_set (by first | assumption | exact Hp.set_none (by assumption) (by first | assumption | exact Ne.symm (by assumption)) | exact Hp.set_none (Hp.set_none (by assumption) (by first | assumption | exact Ne.symm (by assumption))) (by first | assumption | exact Ne.symm (by assumption))) (Hp.le_refl _))) hA91
    refine OpsW.forget hl91 ?_
    clear hA91 hl91
    refine OpsW.q rfl (q_assign (v := v91) rfl) ?_
    refine OpsW.nil ?_
    refine BlockP.go ?_
    refine SeqP.go ?_
    refine AW.region ?_
    refine OpsW.q rfl (q_move (v := .int _ _) rfl) ?_
    refine OpsW.q rfl (q_addI rfl rfl (by omega)) ?_
    refine OpsW.q rfl (q_assign (v := .int _ _) rfl) ?_
    refine OpsW.nil ?_
    exact LoopP.go _ (by omega) ⟨i + 1, v91, _, rfl, (by omega), Slots.eq ⟨(by rfl), (by rfl), (by rfl), (by rfl),  trivial⟩, (hB91.cast (by omega) (by rw [outR_succ4]; simp only [nums, List.map_append, List.map_cons, List.map_nil, Int.toNat_natCast]; rfl))⟩
  try simp only [eb17, eb24, decide_eq_true_eq, decide_eq_false_iff_not, Bool.or_eq_true, Bool.and_eq_true, Bool.or_eq_false_iff, Bool.and_eq_false_imp, Bool.not_eq_true', Bool.not_eq_false', ne_eq, Decidable.not_not, Int.not_lt, Int.not_le, Bool.not_eq_true, Bool.not_eq_false] at h2
  refine AW.skip ?_
  refine SeqP.go ?_
  refine AW.seq ?_
  refine AW.block ?_
  refine AW.seq ?_
  refine AW.region ?_
  refine OpsW.q rfl (q_move (v := .slice _ _ _) rfl) ?_
  refine OpsW.x rfl (o_call rfl Try.func68 rfl rfl (quarterR_con _ (by first | exact hr | (simp only [quarter_length]; exact hr)) (by omega) (by omega) (by omega) (by omega))) ?_
  refine OpsW.nil ?_
  refine SeqP.go ?_
  refine AW.seq ?_
  refine AW.region ?_
  refine OpsW.q rfl (q_move (v := .slice _ _ _) rfl) ?_
  refine OpsW.x rfl (o_call rfl Try.func68 rfl rfl (quarterR_con _ (by first | exact hr | (simp only [quarter_length]; exact hr)) (by omega) (by omega) (by omega) (by omega))) ?_
  refine OpsW.nil ?_
  refine SeqP.go ?_
  refine AW.seq ?_
  refine AW.region ?_
  refine OpsW.q rfl (q_move (v := .slice _ _ _) rfl) ?_
  refine OpsW.x rfl (o_call rfl Try.func68 rfl rfl (quarterR_con _ (by first | exact hr | (simp only [quarter_length]; exact hr)) (by omega) (by omega) (by omega) (by omega))) ?_
  refine OpsW.nil ?_
  refine SeqP.go ?_
  refine AW.seq ?_
  refine AW.region ?_
  refine OpsW.q rfl (q_move (v := .slice _ _ _) rfl) ?_
  refine OpsW.x rfl (o_call rfl Try.func68 rfl rfl (quarterR_con _ (by first | exact hr | (simp only [quarter_length]; exact hr)) (by omega) (by omega) (by omega) (by omega))) ?_
  refine OpsW.nil ?_
  refine SeqP.go ?_
  refine AW.seq ?_
  refine AW.region ?_
  refine OpsW.q rfl (q_move (v := .slice _ _ _) rfl) ?_
  refine OpsW.x rfl (o_call rfl Try.func68 rfl rfl (quarterR_con _ (by first | exact hr | (simp only [quarter_length]; exact hr)) (by omega) (by omega) (by omega) (by omega))) ?_
  refine OpsW.nil ?_
  refine SeqP.go ?_
  refine AW.seq ?_
  refine AW.region ?_
  refine OpsW.q rfl (q_move (v := .slice _ _ _) rfl) ?_
  refine OpsW.x rfl (o_call rfl Try.func68 rfl rfl (quarterR_con _ (by first | exact hr | (simp only [quarter_length]; exact hr)) (by omega) (by omega) (by omega) (by omega))) ?_
  refine OpsW.nil ?_
  refine SeqP.go ?_
  refine AW.seq ?_
  refine AW.region ?_
  refine OpsW.q rfl (q_move (v := .slice _ _ _) rfl) ?_
  refine OpsW.x rfl (o_call rfl Try.func68 rfl rfl (quarterR_con _ (by first | exact hr | (simp only [quarter_length]; exact hr)) (by omega) (by omega) (by omega) (by omega))) ?_
  refine OpsW.nil ?_
  refine SeqP.go ?_
  refine AW.region ?_
  refine OpsW.q rfl (q_move (v := .slice _ _ _) rfl) ?_
  refine OpsW.x rfl (o_call rfl Try.func68 rfl rfl (quarterR_con _ (by first | exact hr | (simp only [quarter_length]; exact hr)) (by omega) (by omega) (by omega) (by omega))) ?_
  refine OpsW.nil ?_
  refine BlockP.go ?_
  refine SeqP.go ?_
  refine AW.region ?_
  refine OpsW.q rfl (q_move (v := .int _ _) rfl) ?_
  refine OpsW.q rfl (q_addI rfl rfl (by omega)) ?_
  refine OpsW.q rfl (q_assign (v := .int _ _) rfl) ?_
  refine OpsW.nil ?_
  exact LoopP.go _ (by omega) ⟨i + 1, _, rfl, (by omega), Slots.eq ⟨(by rfl), (by rfl), (by rfl),  trivial⟩, (by rw [roundK_succ, ← roundR]; rfl)⟩
theorem xorR_con (key nonce : List UInt8) (n : Int) (data : List UInt8) (hd : data.length ≤ 1099511627776) : Con Try.prog w0 25 #[S key, S nonce, .int .i64 n, S data] H
      (fun v H' => v = .tuple #[S (xorRP key nonce n data).1, .int .i64 (xorRP key nonce n data).2] ∧ H' = H) := by
  refine Con.intro Try.func25 rfl rfl ?_
  refine AW.seq ?_
  refine AW.region ?_
  refine OpsW.q rfl (q_assign (v := S _) rfl) ?_
  refine OpsW.q rfl (q_assign (v := .int _ _) rfl) ?_
  refine OpsW.nil ?_
  refine SeqP.go ?_
  refine AW.seq ?_
  refine AW.region ?_
  refine OpsW.q rfl (q_move (v := S _) rfl) ?_
  refine OpsW.q rfl (q_move (v := S _) rfl) ?_
  refine OpsW.q rfl (q_move (v := .int _ _) rfl) ?_
  refine OpsW.x rfl (o_call rfl Try.func41 rfl rfl (blockR_con _ _ _)) ?_
  refine OpsW.q rfl (q_move (v := .tuple _) rfl) ?_
  refine OpsW.q rfl (q_extract (v := S _) rfl rfl) ?_
  refine OpsW.q rfl (q_extract (v := .int _ _) rfl rfl) ?_
  refine OpsW.q rfl (q_assign (v := S _) rfl) ?_
  refine OpsW.q rfl (q_assign (v := .int _ _) rfl) ?_
  refine OpsW.nil ?_
  refine SeqP.go ?_
  refine AW.seq ?_
  refine AW.seq ?_
  refine AW.region ?_
  refine OpsW.q rfl (q_move (v := .int _ _) rfl) ?_
  refine OpsW.q rfl (q_neq rfl rfl) ?_
  refine OpsW.nil ?_
  refine SeqP.go ?_
  refine AW.cond rfl (fun h0 => ?_) (fun h0 => ?_)
  ·
    try simp only [decide_eq_true_eq, decide_eq_false_iff_not, Bool.or_eq_true, Bool.and_eq_true, Bool.or_eq_false_iff, Bool.and_eq_false_imp, Bool.not_eq_true', Bool.not_eq_false', ne_eq, Decidable.not_not, Int.not_lt, Int.not_le, Bool.not_eq_true, Bool.not_eq_false] at h0
    rw [blockP_snd] at h0
    refine AW.seq ?_
    refine AW.region ?_
    refine OpsW.q rfl (q_move (v := .int _ _) rfl) ?_
    refine OpsW.q rfl (q_assign (v := S _) rfl) ?_
    refine OpsW.q rfl (q_assign (v := .int _ _) rfl) ?_
    refine OpsW.nil ?_
    refine SeqP.go ?_
    refine AW.ret ?_
    refine SeqP.ret ?_
    refine RetP.mk2 (H' := H) (v1 := S _) (v2 := .int _ _) rfl rfl rfl  (by first | exact Hp.le_refl _ | exact hG.le) ?_
    exact ⟨by first | rw [xorRP_bad h0, blockP_snd] | rw [xorRP_big h0 h1] | rw [xorRP_ok h0 h1], rfl⟩
  try simp only [decide_eq_true_eq, decide_eq_false_iff_not, Bool.or_eq_true, Bool.and_eq_true, Bool.or_eq_false_iff, Bool.and_eq_false_imp, Bool.not_eq_true', Bool.not_eq_false', ne_eq, Decidable.not_not, Int.not_lt, Int.not_le, Bool.not_eq_true, Bool.not_eq_false] at h0
  rw [blockP_snd] at h0
  obtain ⟨hk, hn, hn0, hn1⟩ := wrong_zero h0
  refine AW.skip ?_
  refine SeqP.go ?_
  refine AW.seq ?_
  refine AW.seq ?_
  refine AW.region ?_
  refine OpsW.q rfl (q_move (v := .int _ _) rfl) ?_
  refine OpsW.q rfl (q_move (v := S _) rfl) ?_
  refine OpsW.q rfl (q_lenS Try.underlying9 rfl) ?_
  refine OpsW.q rfl (q_addI rfl rfl (by omega)) ?_
  refine OpsW.q rfl (q_quoI rfl rfl (by omega)) ?_
  refine OpsW.q rfl (q_addI rfl rfl (by omega)) ?_
  refine OpsW.q rfl (q_gtr rfl rfl) ?_
  refine OpsW.nil ?_
  refine SeqP.go ?_
  refine AW.cond rfl (fun h1 => ?_) (fun h1 => ?_)
  ·
    try simp only [decide_eq_true_eq, decide_eq_false_iff_not, Bool.or_eq_true, Bool.and_eq_true, Bool.or_eq_false_iff, Bool.and_eq_false_imp, Bool.not_eq_true', Bool.not_eq_false', ne_eq, Decidable.not_not, Int.not_lt, Int.not_le, Bool.not_eq_true, Bool.not_eq_false] at h1
    refine AW.seq ?_
    refine AW.region ?_
    refine OpsW.q rfl (q_assign (v := S _) rfl) ?_
    refine OpsW.q rfl (q_assign (v := .int _ _) rfl) ?_
    refine OpsW.nil ?_
    refine SeqP.go ?_
    refine AW.ret ?_
    refine SeqP.ret ?_
    refine RetP.mk2 (H' := H) (v1 := S _) (v2 := .int _ _) rfl rfl rfl  (by first | exact Hp.le_refl _ | exact hG.le) ?_
    exact ⟨by first | rw [xorRP_bad h0, blockP_snd] | rw [xorRP_big h0 h1] | rw [xorRP_ok h0 h1], rfl⟩
  try simp only [decide_eq_true_eq, decide_eq_false_iff_not, Bool.or_eq_true, Bool.and_eq_true, Bool.or_eq_false_iff, Bool.and_eq_false_imp, Bool.not_eq_true', Bool.not_eq_false', ne_eq, Decidable.not_not, Int.not_lt, Int.not_le, Bool.not_eq_true, Bool.not_eq_false] at h1
  have hml : data.length ≤ maxLen := by unfold maxLen; omega
  refine AW.skip ?_
  refine SeqP.go ?_
  refine AW.seq ?_
  refine AW.region ?_
  refine OpsW.q rfl (q_assign (v := .slice _ _ _) rfl) ?_
  refine OpsW.nil ?_
  refine SeqP.go ?_
  refine AW.seq ?_
  refine AW.region ?_
  refine OpsW.q rfl (q_assign (v := S _) rfl) ?_
  refine OpsW.nil ?_
  refine SeqP.go ?_
  refine AW.seq ?_
  refine AW.seq ?_
  refine AW.region ?_
  refine OpsW.q rfl (q_assign (v := .int _ _) rfl) ?_
  refine OpsW.nil ?_
  refine SeqP.go ?_
  refine AW.block ?_
  refine AW.loop (fun m e H' => ∃ (i : Nat) (sK : List UInt8) (v : Value) (e0 : Env), m = data.length - i ∧ (i ≤ data.length ∧ (i % 64 ≠ 0 → sK = (blockP key nonce (n + ((i / 64 : Nat) : Int))).1)) ∧ e = upds e0 [(0, S key), (1, S nonce), (2, .int .i64 n), (3, S data), (12, v), (14, .int .i64 (i : Int)), (13, S sK)] ∧ Grew H 5 1 nilV i (nums .u8 (xorR key nonce n data i)) v H') _ ⟨0, [], nilV, _, rfl, ⟨Nat.zero_le _, fun h => absurd rfl h⟩, Slots.eq ⟨(by rfl), (by rfl), (by rfl), (by rfl), (by rfl), (by rfl), (by rfl),  trivial⟩, (by rw [xorR_zero]; exact Grew.nil)⟩ ?_
  rintro m _ H1 ⟨i, sK, v, e0, rfl, hf, rfl, hG⟩
  have hq : (i : Int) / 64 = ((i / 64 : Nat) : Int) := by omega
  have hxl := xorR_length key nonce n data i
  refine AW.seq ?_
  refine AW.seq ?_
  refine AW.region ?_
  refine OpsW.q rfl (q_move (v := .int _ _) rfl) ?_
  refine OpsW.q rfl (q_move (v := S _) rfl) ?_
  refine OpsW.q rfl (q_lenS Try.underlying9 rfl) ?_
  refine OpsW.q rfl (q_lss rfl rfl) ?_
  refine OpsW.nil ?_
  refine SeqP.go ?_
  refine AW.cond2 rfl (fun h2 => ?_) (fun h2 => ?_)
  ·
    try simp only [decide_eq_true_eq, decide_eq_false_iff_not, Bool.or_eq_true, Bool.and_eq_true, Bool.or_eq_false_iff, Bool.and_eq_false_imp, Bool.not_eq_true', Bool.not_eq_false', ne_eq, Decidable.not_not, Int.not_lt, Int.not_le, Bool.not_eq_true, Bool.not_eq_false] at h2
    refine AW.exit ?_
    refine SeqP.exit ?_
    refine LoopP.exit ?_
    obtain rfl : i = data.length := by omega
    refine BlockP.here ?_
    refine SeqP.go ?_
    refine AW.seq ?_
    refine AW.region ?_
    refine OpsW.q rfl (q_move (v := v) rfl) ?_
    refine OpsW.q rfl (q_stringV Try.underlying33 Try.underlying5 Try.underlying9 rfl hG.vec) ?_
    refine OpsW.q rfl (q_assign (v := S _) rfl) ?_
    refine OpsW.q rfl (q_assign (v := .int _ _) rfl) ?_
    refine OpsW.nil ?_
    refine SeqP.go ?_
    refine AW.ret ?_
    refine RetP.mk2 (H' := H) (v1 := S _) (v2 := .int _ _) rfl rfl rfl  (by first | exact Hp.le_refl _ | exact hG.le) ?_
    exact ⟨by first | rw [xorRP_bad h0, blockP_snd] | rw [xorRP_big h0 h1] | rw [xorRP_ok h0 h1], rfl⟩
  try simp only [decide_eq_true_eq, decide_eq_false_iff_not, Bool.or_eq_true, Bool.and_eq_true, Bool.or_eq_false_iff, Bool.and_eq_false_imp, Bool.not_eq_true', Bool.not_eq_false', ne_eq, Decidable.not_not, Int.not_lt, Int.not_le, Bool.not_eq_true, Bool.not_eq_false] at h2
  have hlen : (blockP key nonce (n + ((i / 64 : Nat) : Int))).1.length = 64 := blockP_len (wrong_shift h0 (by omega))
  refine AW.skip ?_
  refine SeqP.go ?_
  refine AW.seq ?_
  refine AW.block ?_
  refine AW.seq ?_
  refine AW.seq ?_
  refine AW.region ?_
  refine OpsW.q rfl (q_move (v := .int _ _) rfl) ?_
  refine OpsW.q rfl (q_remI rfl rfl (by omega)) ?_
  refine OpsW.q rfl (q_eql rfl rfl) ?_
  refine OpsW.nil ?_
  refine SeqP.go ?_
  refine AW.cond rfl (fun h3 => ?_) (fun h3 => ?_)
  ·
    try simp only [decide_eq_true_eq, decide_eq_false_iff_not, Bool.or_eq_true, Bool.and_eq_true, Bool.or_eq_false_iff, Bool.and_eq_false_imp, Bool.not_eq_true', Bool.not_eq_false', ne_eq, Decidable.not_not, Int.not_lt, Int.not_le, Bool.not_eq_true, Bool.not_eq_false] at h3
    have hsl : (blockP key nonce (n + (i : Int) / 64)).1.length = 64 := by rw [hq]; exact hlen
    refine AW.region ?_
    refine OpsW.q rfl (q_move (v := S _) rfl) ?_
    refine OpsW.q rfl (q_move (v := S _) rfl) ?_
    refine OpsW.q rfl (q_move (v := .int _ _) rfl) ?_
    refine OpsW.q rfl (q_move (v := .int _ _) rfl) ?_
    refine OpsW.q rfl (q_quoI rfl rfl (by omega)) ?_
    refine OpsW.q rfl (q_addI rfl rfl (by omega)) ?_
    refine OpsW.x rfl (o_call rfl Try.func41 rfl rfl (blockR_con _ _ _)) ?_
    refine OpsW.q rfl (q_move (v := .tuple _) rfl) ?_
    refine OpsW.q rfl (q_extract (v := S _) rfl rfl) ?_
    refine OpsW.q rfl (q_extract (v := .int _ _) rfl rfl) ?_
    generalize hsK : (blockP key nonce (n + (i : Int) / 64)).1 = sK2 at hsl ⊢
    refine OpsW.q rfl (q_assign (v := S _) rfl) ?_
    refine OpsW.nil ?_
    refine SeqP.go ?_
    refine AW.drawK [0] 9 rfl (by kernel_rfl) ?_
    refine SeqK.q rfl (q_move (v := v) rfl) ?_
    refine SeqK.q rfl (q_move (v := S _) rfl) ?_
    refine SeqK.q rfl (q_move (v := .int _ _) rfl) ?_
    refine SeqK.q rfl (q_indexS Try.underlying9 rfl rfl (by omega) (by omega)) ?_
    refine SeqK.q rfl (q_move (v := S _) rfl) ?_
    refine SeqK.q rfl (q_move (v := .int _ _) rfl) ?_
    refine SeqK.q rfl (q_remI rfl rfl (by omega)) ?_
    refine SeqK.q rfl (q_indexS Try.underlying9 rfl rfl (by omega) (by omega)) ?_
    refine SeqK.q rfl (q_xor rfl rfl) ?_
    refine SeqK.done ?_
    refine OpsW.m rfl (o_buildSlice (z := .int .u8 0) (vs := [.int _ _]) Try.underlying33 (by kernel_rfl) (by kernel_rfl) rfl (by rfl) (by rfl) (by decide) rfl (ones_all rfl)) ?_
    rintro _ _ ⟨b60, hb60, rfl, rfl⟩
    refine OpsW.m rfl (o_append (sz := 1) (by_ := 1) (z := .int .u8 0) Try.underlying33 (by kernel_rfl) (by kernel_rfl) (by kernel_rfl) rfl (by kernel_rfl) rfl rfl (hG.vec.le (by exact (Hp.le_set (by first | assumption | exact Hp.set_none (by assumption) (by first | assumption | exact Ne.symm (by assumption)) | exact Hp.set_none (Hp.set_none (by assumption) (by first | assumption | exact Ne.symm (by assumption))) (by first | assumption | exact Ne.symm (by assumption))) (Hp.le_refl _)))) (src_lit (by exact Hp.set_self) rfl (ones_all rfl)) (by omega) (by omega)) ?_
    rintro v61 H61 hA61
    obtain ⟨H61b, hl61, hB61⟩ := Grew.step hG (by exact (Hp.le_set (by first | assumption | exact Hp.set_none (by assumption) (by first | assumption | exact Ne.symm (by assumption)) | exact Hp.set_none (Hp.set_none (by assumption) (by first | assumption | exact Ne.symm (by assumption))) (by first | assumption | exact Ne.symm (by assumption))) (Hp.le_refl _))) hA61
    refine OpsW.forget hl61 ?_
    clear hA61 hl61
    refine OpsW.q rfl (q_assign (v := v61) rfl) ?_
    refine OpsW.nil ?_
    refine BlockP.go ?_
    refine SeqP.go ?_
    refine AW.region ?_
    refine OpsW.q rfl (q_move (v := .int _ _) rfl) ?_
    refine OpsW.q rfl (q_addI rfl rfl (by omega)) ?_
    refine OpsW.q rfl (q_assign (v := .int _ _) rfl) ?_
    refine OpsW.nil ?_
    exact LoopP.go _ (by omega) ⟨i + 1, sK2, v61, _, rfl, (by refine ⟨by omega, fun h => ?_⟩; rw [show (i + 1) / 64 = i / 64 from by omega]; first | exact hf.2 (by omega) | rw [← hsK, hq]), Slots.eq ⟨(by rfl), (by rfl), (by rfl), (by rfl), (by rfl), (by rfl), (by rfl),  trivial⟩, (hB61.cast rfl (by rw [nums_snoc, xorR_succ]; simp only [Int.toNat_natCast, show ((i : Int) % 64).toNat = i % 64 from by omega, hq]; first | rw [hf.2 (by omega)] | rw [← hsK, hq]))⟩
  try simp only [decide_eq_true_eq, decide_eq_false_iff_not, Bool.or_eq_true, Bool.and_eq_true, Bool.or_eq_false_iff, Bool.and_eq_false_imp, Bool.not_eq_true', Bool.not_eq_false', ne_eq, Decidable.not_not, Int.not_lt, Int.not_le, Bool.not_eq_true, Bool.not_eq_false] at h3
  have hsl : sK.length = 64 := by rw [hf.2 (by omega)]; exact hlen
  obtain ⟨sK2, rfl⟩ : ∃ z, z = sK := ⟨_, rfl⟩
  refine AW.skip ?_
  refine SeqP.go ?_
  refine AW.drawK [0] 9 rfl (by kernel_rfl) ?_
  refine SeqK.q rfl (q_move (v := v) rfl) ?_
  refine SeqK.q rfl (q_move (v := S _) rfl) ?_
  refine SeqK.q rfl (q_move (v := .int _ _) rfl) ?_
  refine SeqK.q rfl (q_indexS Try.underlying9 rfl rfl (by omega) (by omega)) ?_
  refine SeqK.q rfl (q_move (v := S _) rfl) ?_
  refine SeqK.q rfl (q_move (v := .int _ _) rfl) ?_
  refine SeqK.q rfl (q_remI rfl rfl (by omega)) ?_
  refine SeqK.q rfl (q_indexS Try.underlying9 rfl rfl (by omega) (by omega)) ?_
  refine SeqK.q rfl (q_xor rfl rfl) ?_
  refine SeqK.done ?_
  refine OpsW.m rfl (o_buildSlice (z := .int .u8 0) (vs := [.int _ _]) Try.underlying33 (by kernel_rfl) (by kernel_rfl) rfl (by rfl) (by rfl) (by decide) rfl (ones_all rfl)) ?_
  rintro _ _ ⟨b60, hb60, rfl, rfl⟩
  refine OpsW.m rfl (o_append (sz := 1) (by_ := 1) (z := .int .u8 0) Try.underlying33 (by kernel_rfl) (by kernel_rfl) (by kernel_rfl) rfl (by kernel_rfl) rfl rfl (hG.vec.le (by exact (Hp.le_set (by first | assumption | exact Hp.set_none (by assumption) (by first | assumption | exact Ne.symm (by assumption)) | exact Hp.set_none (Hp.set_none (by assumption) (by first | assumption | exact Ne.symm (by assumption))) (by first | assumption | exact Ne.symm (by assumption))) (Hp.le_refl _)))) (src_lit (by exact Hp.set_self) rfl (ones_all rfl)) (by omega) (by omega)) ?_
  rintro v61 H61 hA61
  obtain ⟨H61b, hl61, hB61⟩ := Grew.step hG (by exact (Hp.le_set (by first | assumption | exact Hp.set_none (by assumption) (by first | assumption | exact Ne.symm (by assumption)) | exact Hp.set_none (Hp.set_none (by assumption) (by first | assumption | exact Ne.symm (by assumption))) (by first | assumption | exact Ne.symm (by assumption))) (Hp.le_refl _))) hA61
  refine OpsW.forget hl61 ?_
  clear hA61 hl61
  refine OpsW.q rfl (q_assign (v := v61) rfl) ?_
  refine OpsW.nil ?_
  refine BlockP.go ?_
  refine SeqP.go ?_
  refine AW.region ?_
  refine OpsW.q rfl (q_move (v := .int _ _) rfl) ?_
  refine OpsW.q rfl (q_addI rfl rfl (by omega)) ?_
  refine OpsW.q rfl (q_assign (v := .int _ _) rfl) ?_
  refine OpsW.nil ?_
  exact LoopP.go _ (by omega) ⟨i + 1, sK2, v61, _, rfl, (by refine ⟨by omega, fun h => ?_⟩; rw [show (i + 1) / 64 = i / 64 from by omega]; first | exact hf.2 (by omega) | rw [← hsK, hq]), Slots.eq ⟨(by rfl), (by rfl), (by rfl), (by rfl), (by rfl), (by rfl), (by rfl),  trivial⟩, (hB61.cast rfl (by rw [nums_snoc, xorR_succ]; simp only [Int.toNat_natCast, show ((i : Int) % 64).toNat = i % 64 from by omega, hq]; first | rw [hf.2 (by omega)] | rw [← hsK, hq]))⟩
end
end Go.Proofs.Ytkfdoicjpoofhaa.Ch
end
section
namespace Go.Proofs.Ytkfdoicjpoofhaa.Po
open Go Go.RowKit D
set_option linter.unusedVariables false
set_option linter.unusedSimpArgs false
set_option maxRecDepth 100000
set_option maxHeartbeats 2000000
section
variable {w0 : World} {H : Hp} {H0 : Hp}
theorem word_con {b o n c sz : Nat} {el : TypeId} {xs : List Int} (hb : H b = some ⟨nums .u8 xs, sz, el⟩) (hn : 4 ≤ n) (ho : o + 4 ≤ xs.length) (hB : BytesL xs) : Con Try.prog w0 76 #[.slice (some ⟨b, o, none⟩) n c] H (fun v H' => v = .int .u64 (wd xs o) ∧ H' = H) := by
  have hS0 : Sep H [] H := Sep.refl
  refine Con.intro Try.func76 rfl rfl ?_
  refine AW.seq ?_
  refine AW.region ?_
  refine OpsW.q rfl (q_assign (v := .int _ _) rfl) ?_
  refine OpsW.nil ?_
  refine SeqP.go ?_
  refine AW.seq ?_
  refine AW.drawK [] 21 rfl (by kernel_rfl) ?_
  refine SeqK.q rfl (q_move (v := .slice _ _ _) rfl) ?_
  refine SeqK.q rfl (q_indexAddrV (sz := 1) Try.underlying33 (by kernel_rfl) rfl rfl (by omega) (by omega)) ?_
  refine SeqK.q rfl (q_loadN (by kernel_rfl) rfl hb (by show o + 0 < _; omega)) ?_
  refine SeqK.q rfl (q_convInt rfl Try.underlying41 rfl) ?_
  refine SeqK.q rfl (q_move (v := .slice _ _ _) rfl) ?_
  refine SeqK.q rfl (q_indexAddrV (sz := 1) Try.underlying33 (by kernel_rfl) rfl rfl (by omega) (by omega)) ?_
  refine SeqK.q rfl (q_loadN (by kernel_rfl) rfl hb (by show o + 1 < _; omega)) ?_
  refine SeqK.q rfl (q_convInt rfl Try.underlying41 rfl) ?_
  refine SeqK.q rfl (q_shlL 8 rfl rfl (by decide) rfl) ?_
  refine SeqK.q rfl (q_or rfl rfl) ?_
  refine SeqK.q rfl (q_move (v := .slice _ _ _) rfl) ?_
  refine SeqK.q rfl (q_indexAddrV (sz := 1) Try.underlying33 (by kernel_rfl) rfl rfl (by omega) (by omega)) ?_
  refine SeqK.q rfl (q_loadN (by kernel_rfl) rfl hb (by show o + 2 < _; omega)) ?_
  refine SeqK.q rfl (q_convInt rfl Try.underlying41 rfl) ?_
  refine SeqK.q rfl (q_shlL 16 rfl rfl (by decide) rfl) ?_
  refine SeqK.q rfl (q_or rfl rfl) ?_
  refine SeqK.q rfl (q_move (v := .slice _ _ _) rfl) ?_
  refine SeqK.q rfl (q_indexAddrV (sz := 1) Try.underlying33 (by kernel_rfl) rfl rfl (by omega) (by omega)) ?_
  refine SeqK.q rfl (q_loadN (by kernel_rfl) rfl hb (by show o + 3 < _; omega)) ?_
  refine SeqK.q rfl (q_convInt rfl Try.underlying41 rfl) ?_
  refine SeqK.q rfl (q_shlL 24 rfl rfl (by decide) rfl) ?_
  refine SeqK.done ?_
  refine OpsW.q rfl (q_or rfl rfl) ?_
  refine OpsW.q rfl (q_assign (v := .int _ _) rfl) ?_
  refine OpsW.nil ?_
  refine SeqP.go ?_
  refine AW.ret ?_
  refine RetP.mk1 (H' := H) (v1 := .int _ _) rfl rfl  hS0.le ?_
  exact ⟨congrArg (Value.int .u64) (word_eq (hB o) (hB (o + 1)) (hB (o + 2)) (hB (o + 3))), rfl⟩
theorem of_con {xs : List Int} (hl : xs.length = 17) (hB : BytesL xs) : Con Try.prog w0 54 #[.agg (nums .u8 xs).toArray] H (fun v H' => v = .agg (nums .u64 (ofL xs)).toArray ∧ H' = H) := by
  have hS0 : Sep H [] H := Sep.refl
  have r0 := wd_range hB 0
  have r3 := wd_range hB 3
  have r6 := wd_range hB 6
  have r9 := wd_range hB 9
  have r12 := wd_range hB 12
  refine Con.intro Try.func54 rfl rfl ?_
  refine AW.seq ?_
  refine AW.region ?_
  refine OpsW.m rfl (s_boxN (k := .u8) hS0 rfl) ?_
  rintro _ H1 ⟨b1, rfl, hS1⟩
  clear hS0
  refine OpsW.m rfl (s_allocN (k := .u64) (m := 5) hS1 (by kernel_rfl)) ?_
  rintro _ H2 ⟨b2, rfl, hS2⟩
  clear hS1
  refine OpsW.nil ?_
  refine SeqP.go ?_
  refine AW.seq ?_
  refine AW.drawK [] 23 rfl (by kernel_rfl) ?_
  refine SeqK.q rfl (q_sliceArr_lo (sz := 1) Try.underlying74 (by kernel_rfl) rfl rfl (by omega) (by omega)) ?_
  refine SeqK.q rfl (o_call rfl Try.func76 rfl rfl (word_con (o := 0) (hS2.blk at1) (by decide) (by rw [hl]; decide) hB)) ?_
  refine SeqK.q rfl (q_and rfl rfl) ?_
  rw [mask26 (by omega) (by omega)]
  refine SeqK.q rfl (q_sliceArr_lo (sz := 1) Try.underlying74 (by kernel_rfl) rfl rfl (by omega) (by omega)) ?_
  refine SeqK.q rfl (o_call rfl Try.func76 rfl rfl (word_con (o := 3) (hS2.blk at1) (by decide) (by rw [hl]; decide) hB)) ?_
  refine SeqK.q rfl (q_shrL 2 rfl rfl (by decide) rfl) ?_
  refine SeqK.q rfl (q_and rfl rfl) ?_
  rw [mask26 (by omega) (by omega)]
  refine SeqK.q rfl (q_sliceArr_lo (sz := 1) Try.underlying74 (by kernel_rfl) rfl rfl (by omega) (by omega)) ?_
  refine SeqK.q rfl (o_call rfl Try.func76 rfl rfl (word_con (o := 6) (hS2.blk at1) (by decide) (by rw [hl]; decide) hB)) ?_
  refine SeqK.q rfl (q_shrL 4 rfl rfl (by decide) rfl) ?_
  refine SeqK.q rfl (q_and rfl rfl) ?_
  rw [mask26 (by omega) (by omega)]
  refine SeqK.q rfl (q_sliceArr_lo (sz := 1) Try.underlying74 (by kernel_rfl) rfl rfl (by omega) (by omega)) ?_
  refine SeqK.q rfl (o_call rfl Try.func76 rfl rfl (word_con (o := 9) (hS2.blk at1) (by decide) (by rw [hl]; decide) hB)) ?_
  refine SeqK.q rfl (q_shrL 6 rfl rfl (by decide) rfl) ?_
  refine SeqK.q rfl (q_sliceArr_lo (sz := 1) Try.underlying74 (by kernel_rfl) rfl rfl (by omega) (by omega)) ?_
  refine SeqK.q rfl (o_call rfl Try.func76 rfl rfl (word_con (o := 12) (hS2.blk at1) (by decide) (by rw [hl]; decide) hB)) ?_
  refine SeqK.q rfl (q_shrL 8 rfl rfl (by decide) rfl) ?_
  refine SeqK.q rfl (q_and rfl rfl) ?_
  rw [mask26 (by omega) (by omega)]
  refine SeqK.q rfl (q_indexAddrA0 Try.underlying74 (by kernel_rfl) rfl rfl (by omega) (by omega)) ?_
  refine SeqK.q rfl (q_loadN (by kernel_rfl) rfl (hS2.blk at1) (by omega)) ?_
  rw [show xs.getD (Int.toNat 16) 0 = xs.getD 16 0 from rfl]
  refine SeqK.q rfl (q_convInt rfl Try.underlying41 rfl) ?_
  refine SeqK.q rfl (q_shlL 24 rfl rfl (by decide) rfl) ?_
  refine SeqK.q rfl (q_or rfl rfl) ?_
  rw [of_last hB]
  refine SeqK.done ?_
  refine OpsW.q rfl (q_buildN (k := .u64) [_, _, _, _, _] rfl (by kernel_rfl)) ?_
  refine OpsW.ms (s_storeA (n := 5) (k := .u64) hS2 at0 (by kernel_rfl) rfl rfl (by simp; done) (by rfl)) ?_
  rintro _ H3 ⟨rfl, hS3⟩
  clear hS2
  refine OpsW.nil ?_
  refine SeqP.go ?_
  refine AW.ret ?_
  refine RetP.mkc (m := 5) (H' := H) rfl rfl (hS3.blk at0) (by rfl) (by kernel_rfl) hS3.le ?_
  exact ⟨by unfold ofL; rfl, rfl⟩
theorem carry_con {b sz : Nat} {el : TypeId} {xs : List Int} (hS0 : Sep H0 [.blk b ⟨nums .u64 xs, sz, el⟩] H) (hl : xs.length = 5) : Con Try.prog w0 77 #[.pointer (some ⟨b, 0, none⟩)] H (fun v H' => v = .tuple #[] ∧ Sep H0 [.blk b ⟨nums .u64 (carR .u64 67108864 67108863 5 xs 2), sz, el⟩] H') := by
  refine Con.intro Try.func77 rfl rfl ?_
  refine AW.seq ?_
  refine AW.region ?_
  refine OpsW.q rfl (q_move (v := .int _ _) rfl) ?_
  refine OpsW.nil ?_
  refine SeqP.go ?_
  refine AW.block ?_
  refine AW.loop (fun m_ e_ H_ => ∃ (r : Nat) (e0 : Env), m_ = 2 - r ∧ (r ≤ 2) ∧ e_ = upds e0 [(0, .pointer (some ⟨b, 0, none⟩)), (4, .int .i64 (r : Int))] ∧ Sep H0 [.blk b ⟨nums .u64 ((carR .u64 67108864 67108863 5 xs r)), sz, el⟩] H_) _ ⟨0, _, rfl, (by omega), Slots.eq ⟨(by rfl), (by rfl),  trivial⟩, (by rw [carR_zero]; exact hS0)⟩ ?_
  rintro m_ _ Hl0 ⟨r, e0, rfl, hf, rfl, hSl0⟩
  try clear hS0
  have hl1 : (carR .u64 67108864 67108863 5 xs r).length = 5 := by rw [carR_length, hl]
  refine AW.seq ?_
  refine AW.region ?_
  refine OpsW.q rfl (q_lss rfl rfl) ?_
  refine OpsW.nil ?_
  refine SeqP.go ?_
  refine AW.seq ?_
  refine AW.cond2 rfl (fun h0 => ?_) (fun h0 => ?_)
  ·
    try simp only [decide_eq_true_eq, decide_eq_false_iff_not, Bool.or_eq_true, Bool.and_eq_true, Bool.or_eq_false_iff, Bool.and_eq_false_imp, Bool.not_eq_true', Bool.not_eq_false', ne_eq, Decidable.not_not, Int.not_lt, Int.not_le, Bool.not_eq_true, Bool.not_eq_false] at h0
    refine AW.exit ?_
    refine SeqP.exit ?_
    refine LoopP.exit ?_
    obtain rfl : r = 2 := by omega
    refine BlockP.here ?_
    refine RetP.end0 (H' := Hl0) rfl (Hp.le_refl _) ?_
    exact ⟨rfl, hSl0⟩
  try simp only [decide_eq_true_eq, decide_eq_false_iff_not, Bool.or_eq_true, Bool.and_eq_true, Bool.or_eq_false_iff, Bool.and_eq_false_imp, Bool.not_eq_true', Bool.not_eq_false', ne_eq, Decidable.not_not, Int.not_lt, Int.not_le, Bool.not_eq_true, Bool.not_eq_false] at h0
  refine AW.skip ?_
  refine SeqP.go ?_
  refine AW.seq ?_
  refine AW.block ?_
  refine AW.seq ?_
  refine AW.region ?_
  refine OpsW.q rfl (q_assign (v := .int _ _) rfl) ?_
  refine OpsW.nil ?_
  refine SeqP.go ?_
  refine AW.seq ?_
  refine AW.seq ?_
  refine AW.region ?_
  refine OpsW.q rfl (q_move (v := .int _ _) rfl) ?_
  refine OpsW.nil ?_
  refine SeqP.go ?_
  refine AW.block ?_
  refine AW.loop (fun m_ e_ H_ => ∃ (i : Nat) (e0 : Env), m_ = 5 - i ∧ (i ≤ 5) ∧ e_ = upds e0 [(0, .pointer (some ⟨b, 0, none⟩)), (2, .int .u64 (carK .u64 67108864 67108863 (carR .u64 67108864 67108863 5 xs r) i).2), (4, .int .i64 (r : Int)), (6, .int .i64 (i : Int))] ∧ Sep H0 [.blk b ⟨nums .u64 ((carK .u64 67108864 67108863 (carR .u64 67108864 67108863 5 xs r) i).1), sz, el⟩] H_) _ ⟨0, _, rfl, (by omega), Slots.eq ⟨(by rfl), (by rw [carK_zero]; rfl), (by rfl), (by rfl),  trivial⟩, (by rw [carK_zero]; exact hSl0)⟩ ?_
  rintro m_ _ Hl1 ⟨i, e0, rfl, hf, rfl, hSl1⟩
  try clear hSl0
  have hl2 : (carK .u64 67108864 67108863 (carR .u64 67108864 67108863 5 xs r) i).1.length = 5 := by rw [carK_length, hl1]
  refine AW.seq ?_
  refine AW.region ?_
  refine OpsW.q rfl (q_lss rfl rfl) ?_
  refine OpsW.nil ?_
  refine SeqP.go ?_
  refine AW.seq ?_
  refine AW.cond2 rfl (fun h1 => ?_) (fun h1 => ?_)
  ·
    try simp only [decide_eq_true_eq, decide_eq_false_iff_not, Bool.or_eq_true, Bool.and_eq_true, Bool.or_eq_false_iff, Bool.and_eq_false_imp, Bool.not_eq_true', Bool.not_eq_false', ne_eq, Decidable.not_not, Int.not_lt, Int.not_le, Bool.not_eq_true, Bool.not_eq_false] at h1
    refine AW.exit ?_
    refine SeqP.exit ?_
    refine LoopP.exit ?_
    obtain rfl : i = 5 := by omega
    refine BlockP.here ?_
    refine SeqP.go ?_
    refine AW.drawK [] 8 rfl (by kernel_rfl) ?_
    refine SeqK.q rfl (q_move (v := .pointer _) rfl) ?_
    refine SeqK.q rfl (q_nilCheck rfl) ?_
    refine SeqK.q rfl (q_indexAddrA0 Try.underlying72 (by kernel_rfl) rfl rfl (by omega) (by omega)) ?_
    refine SeqK.q rfl (q_loadN (by kernel_rfl) rfl (hSl1.blk at0) (by omega)) ?_
    refine SeqK.q rfl (q_move (v := .int _ _) rfl) ?_
    refine SeqK.q rfl (q_mul rfl rfl) ?_
    refine SeqK.q rfl (q_add rfl rfl) ?_
    refine SeqK.q rfl (q_nilCheck rfl) ?_
    refine SeqK.done ?_
    refine OpsW.q rfl (q_indexAddrA0 Try.underlying72 (by kernel_rfl) rfl rfl (by omega) (by omega)) ?_
    refine OpsW.ms (s_storeN hSl1 at0 (by kernel_rfl) rfl rfl (by omega)) ?_
    rintro _ H1 ⟨rfl, hS1⟩
    clear hSl1
    refine OpsW.nil ?_
    refine BlockP.go ?_
    refine SeqP.go ?_
    refine AW.region ?_
    refine OpsW.q rfl (q_addI rfl rfl (by omega)) ?_
    refine OpsW.q rfl (q_move (v := .int _ _) rfl) ?_
    refine OpsW.nil ?_
    exact LoopP.go _ (by omega) ⟨r + 1, _, rfl, (by omega), Slots.eq ⟨(by rfl), (by rfl),  trivial⟩, (by rw [carR_succ]; unfold car1; exact hS1)⟩
  try simp only [decide_eq_true_eq, decide_eq_false_iff_not, Bool.or_eq_true, Bool.and_eq_true, Bool.or_eq_false_iff, Bool.and_eq_false_imp, Bool.not_eq_true', Bool.not_eq_false', ne_eq, Decidable.not_not, Int.not_lt, Int.not_le, Bool.not_eq_true, Bool.not_eq_false] at h1
  refine AW.skip ?_
  refine SeqP.go ?_
  refine AW.seq ?_
  refine AW.block ?_
  refine AW.seq ?_
  refine AW.region ?_
  refine OpsW.q rfl (q_move (v := .int _ _) rfl) ?_
  refine OpsW.q rfl (q_assign (v := .int _ _) rfl) ?_
  refine OpsW.nil ?_
  refine SeqP.go ?_
  refine AW.seq ?_
  refine AW.drawK [] 8 rfl (by kernel_rfl) ?_
  refine SeqK.q rfl (q_move (v := .pointer _) rfl) ?_
  refine SeqK.q rfl (q_move (v := .int _ _) rfl) ?_
  refine SeqK.q rfl (q_nilCheck rfl) ?_
  refine SeqK.q rfl (q_indexAddrA0 Try.underlying72 (by kernel_rfl) rfl rfl (by omega) (by omega)) ?_
  refine SeqK.q rfl (q_loadN (by kernel_rfl) rfl (hSl1.blk at0) (by omega)) ?_
  refine SeqK.q rfl (q_move (v := .int _ _) rfl) ?_
  refine SeqK.q rfl (q_add rfl rfl) ?_
  refine SeqK.q rfl (q_nilCheck rfl) ?_
  refine SeqK.done ?_
  refine OpsW.q rfl (q_indexAddrA0 Try.underlying72 (by kernel_rfl) rfl rfl (by omega) (by omega)) ?_
  refine OpsW.ms (s_storeN hSl1 at0 (by kernel_rfl) rfl rfl (by omega)) ?_
  rintro _ H2 ⟨rfl, hS2⟩
  clear hSl1
  refine OpsW.nil ?_
  refine SeqP.go ?_
  refine AW.seq ?_
  refine AW.region ?_
  refine OpsW.q rfl (q_move (v := .pointer _) rfl) ?_
  refine OpsW.q rfl (q_move (v := .int _ _) rfl) ?_
  refine OpsW.q rfl (q_nilCheck rfl) ?_
  refine OpsW.q rfl (q_indexAddrA0 Try.underlying72 (by kernel_rfl) rfl rfl (by omega) (by omega)) ?_
  refine OpsW.q rfl (q_loadN (by kernel_rfl) rfl (hS2.blk at0) (by simp only [nums_length, List.length_set, List.length_replicate, List.length_take, List.length_drop, List.length_append, List.length_cons, List.length_nil, ofB_length, toB_length]; omega)) ?_
  refine OpsW.q rfl (q_shrL 26 rfl rfl (by decide) rfl) ?_
  refine OpsW.q rfl (q_assign (v := .int _ _) rfl) ?_
  refine OpsW.nil ?_
  refine SeqP.go ?_
  refine AW.drawK [] 7 rfl (by kernel_rfl) ?_
  refine SeqK.q rfl (q_move (v := .pointer _) rfl) ?_
  refine SeqK.q rfl (q_move (v := .int _ _) rfl) ?_
  refine SeqK.q rfl (q_nilCheck rfl) ?_
  refine SeqK.q rfl (q_indexAddrA0 Try.underlying72 (by kernel_rfl) rfl rfl (by omega) (by omega)) ?_
  refine SeqK.q rfl (q_loadN (by kernel_rfl) rfl (hS2.blk at0) (by simp only [nums_length, List.length_set, List.length_replicate, List.length_take, List.length_drop, List.length_append, List.length_cons, List.length_nil, ofB_length, toB_length]; omega)) ?_
  refine SeqK.q rfl (q_and rfl rfl) ?_
  refine SeqK.q rfl (q_nilCheck rfl) ?_
  refine SeqK.done ?_
  refine OpsW.q rfl (q_indexAddrA0 Try.underlying72 (by kernel_rfl) rfl rfl (by omega) (by omega)) ?_
  refine OpsW.ms (s_storeN hS2 at0 (by kernel_rfl) rfl rfl (by simp only [nums_length, List.length_set, List.length_replicate, List.length_take, List.length_drop, List.length_append, List.length_cons, List.length_nil, ofB_length, toB_length]; omega)) ?_
  rintro _ H3 ⟨rfl, hS3⟩
  clear hS2
  refine OpsW.nil ?_
  refine BlockP.go ?_
  refine SeqP.go ?_
  refine AW.region ?_
  refine OpsW.q rfl (q_addI rfl rfl (by omega)) ?_
  refine OpsW.q rfl (q_move (v := .int _ _) rfl) ?_
  refine OpsW.nil ?_
  exact LoopP.go _ (by omega) ⟨i + 1, _, rfl, (by omega), Slots.eq ⟨(by rfl), (by rw [carK_succ]; show Value.int .u64 (List.getD (List.set _ _ _) _ _ / _) = _; rw [getD_set_self (by rw [Int.toNat_natCast]; omega)]; rfl), (by rfl), (by rfl),  trivial⟩, (by rw [carK_succ]; have hs := hS3; rw [getD_set_self (by rw [Int.toNat_natCast]; omega), List.set_set] at hs; exact hs)⟩
theorem add_con {b sz : Nat} {el : TypeId} {xs : List Int} {ys : List Int} (hy : ys.length = 5) (hS0 : Sep H0 [.blk b ⟨nums .u64 xs, sz, el⟩] H) (hl : xs.length = 5) : Con Try.prog w0 53 #[.pointer (some ⟨b, 0, none⟩), .agg (nums .u64 ys).toArray] H (fun v H' => v = .tuple #[] ∧ Sep H0 [.blk b ⟨nums .u64 (addK .u64 xs ys 5), sz, el⟩] H') := by
  refine Con.intro Try.func53 rfl rfl ?_
  refine AW.seq ?_
  refine AW.region ?_
  refine OpsW.m rfl (s_boxN (k := .u64) hS0 rfl) ?_
  rintro _ H1 ⟨b3, rfl, hS1⟩
  clear hS0
  refine OpsW.nil ?_
  refine SeqP.go ?_
  refine AW.seq ?_
  refine AW.region ?_
  refine OpsW.q rfl (q_move (v := .int _ _) rfl) ?_
  refine OpsW.nil ?_
  refine SeqP.go ?_
  refine AW.block ?_
  refine AW.loop (fun m_ e_ H_ => ∃ (i : Nat) (e0 : Env), m_ = 5 - i ∧ (i ≤ 5) ∧ e_ = upds e0 [(0, .pointer (some ⟨b, 0, none⟩)), (3, .pointer (some ⟨b3, 0, none⟩)), (5, .int .i64 (i : Int))] ∧ Sep H0 [.blk b3 ⟨nums .u64 ys, ys.length, 72⟩, .blk b ⟨nums .u64 ((addK .u64 xs ys i)), sz, el⟩] H_) _ ⟨0, _, rfl, (by omega), Slots.eq ⟨(by rfl), (by rfl), (by rfl),  trivial⟩, (by rw [addK_zero]; exact hS1)⟩ ?_
  rintro m_ _ Hl0 ⟨i, e0, rfl, hf, rfl, hSl0⟩
  try clear hS1
  have hl2 : (addK .u64 xs ys i).length = 5 := by rw [addK_length, hl]
  refine AW.seq ?_
  refine AW.region ?_
  refine OpsW.q rfl (q_lss rfl rfl) ?_
  refine OpsW.nil ?_
  refine SeqP.go ?_
  refine AW.seq ?_
  refine AW.cond2 rfl (fun h0 => ?_) (fun h0 => ?_)
  ·
    try simp only [decide_eq_true_eq, decide_eq_false_iff_not, Bool.or_eq_true, Bool.and_eq_true, Bool.or_eq_false_iff, Bool.and_eq_false_imp, Bool.not_eq_true', Bool.not_eq_false', ne_eq, Decidable.not_not, Int.not_lt, Int.not_le, Bool.not_eq_true, Bool.not_eq_false] at h0
    refine AW.exit ?_
    refine SeqP.exit ?_
    refine LoopP.exit ?_
    obtain rfl : i = 5 := by omega
    refine BlockP.here ?_
    refine RetP.end0 (H' := Hl0) rfl (Hp.le_refl _) ?_
    exact ⟨rfl, hSl0.tail⟩
  try simp only [decide_eq_true_eq, decide_eq_false_iff_not, Bool.or_eq_true, Bool.and_eq_true, Bool.or_eq_false_iff, Bool.and_eq_false_imp, Bool.not_eq_true', Bool.not_eq_false', ne_eq, Decidable.not_not, Int.not_lt, Int.not_le, Bool.not_eq_true, Bool.not_eq_false] at h0
  refine AW.skip ?_
  refine SeqP.go ?_
  refine AW.seq ?_
  refine AW.block ?_
  refine AW.seq ?_
  refine AW.region ?_
  refine OpsW.q rfl (q_move (v := .int _ _) rfl) ?_
  refine OpsW.q rfl (q_assign (v := .int _ _) rfl) ?_
  refine OpsW.nil ?_
  refine SeqP.go ?_
  refine AW.drawK [] 10 rfl (by kernel_rfl) ?_
  refine SeqK.q rfl (q_move (v := .pointer _) rfl) ?_
  refine SeqK.q rfl (q_move (v := .int _ _) rfl) ?_
  refine SeqK.q rfl (q_nilCheck rfl) ?_
  refine SeqK.q rfl (q_indexAddrA0 Try.underlying72 (by kernel_rfl) rfl rfl (by omega) (by omega)) ?_
  refine SeqK.q rfl (q_loadN (by kernel_rfl) rfl (hSl0.blk at1) (by omega)) ?_
  refine SeqK.q rfl (q_move (v := .int _ _) rfl) ?_
  refine SeqK.q rfl (q_indexAddrA0 Try.underlying72 (by kernel_rfl) rfl rfl (by omega) (by omega)) ?_
  refine SeqK.q rfl (q_loadN (by kernel_rfl) rfl (hSl0.blk at0) (by omega)) ?_
  refine SeqK.q rfl (q_add rfl rfl) ?_
  refine SeqK.q rfl (q_nilCheck rfl) ?_
  refine SeqK.done ?_
  refine OpsW.q rfl (q_indexAddrA0 Try.underlying72 (by kernel_rfl) rfl rfl (by omega) (by omega)) ?_
  refine OpsW.ms (s_storeN hSl0 at1 (by kernel_rfl) rfl rfl (by omega)) ?_
  rintro _ H2 ⟨rfl, hS2⟩
  clear hSl0
  refine OpsW.nil ?_
  refine BlockP.go ?_
  refine SeqP.go ?_
  refine AW.region ?_
  refine OpsW.q rfl (q_addI rfl rfl (by omega)) ?_
  refine OpsW.q rfl (q_move (v := .int _ _) rfl) ?_
  refine OpsW.nil ?_
  exact LoopP.go _ (by omega) ⟨i + 1, _, rfl, (by omega), Slots.eq ⟨(by rfl), (by rfl), (by rfl),  trivial⟩, (by rw [addK_succ]; exact hS2)⟩
theorem times_con {b sz : Nat} {el : TypeId} {xs : List Int} {ys : List Int} (hy : ys.length = 5) (hS0 : Sep H0 [.blk b ⟨nums .u64 xs, sz, el⟩] H) (hl : xs.length = 5) : Con Try.prog w0 55 #[.pointer (some ⟨b, 0, none⟩), .agg (nums .u64 ys).toArray] H (fun v H' => v = .tuple #[] ∧ Sep H0 [.blk b ⟨nums .u64 (timesP xs ys), sz, el⟩] H') := by
  refine Con.intro Try.func55 rfl rfl ?_
  refine AW.seq ?_
  refine AW.region ?_
  refine OpsW.m rfl (s_boxN (k := .u64) hS0 rfl) ?_
  rintro _ H1 ⟨b3, rfl, hS1⟩
  clear hS0
  refine OpsW.nil ?_
  refine SeqP.go ?_
  refine AW.seq ?_
  refine AW.region ?_
  refine OpsW.m rfl (s_allocN (k := .u64) (m := 5) hS1 (by kernel_rfl)) ?_
  rintro _ H2 ⟨b4, rfl, hS2⟩
  clear hS1
  refine OpsW.nil ?_
  refine SeqP.go ?_
  refine AW.seq ?_
  refine AW.seq ?_
  refine AW.region ?_
  refine OpsW.q rfl (q_move (v := .pointer _) rfl) ?_
  refine OpsW.q rfl (q_move (v := .int _ _) rfl) ?_
  refine OpsW.nil ?_
  refine SeqP.go ?_
  refine AW.block ?_
  refine AW.loop (fun m_ e_ H_ => ∃ (i : Nat) (e0 : Env), m_ = 5 - i ∧ (i ≤ 5) ∧ e_ = upds e0 [(0, .pointer (some ⟨b, 0, none⟩)), (3, .pointer (some ⟨b3, 0, none⟩)), (4, .pointer (some ⟨b4, 0, none⟩)), (9, .pointer (some ⟨b, 0, none⟩)), (10, .int .i64 (i : Int))] ∧ Sep H0 [.blk b4 ⟨nums .u64 ((mulA .u64 5 xs ys i)), 5, 72⟩, .blk b3 ⟨nums .u64 ys, ys.length, 72⟩, .blk b ⟨nums .u64 xs, sz, el⟩] H_) _ ⟨0, _, rfl, (by omega), Slots.eq ⟨(by rfl), (by rfl), (by rfl), (by rfl), (by rfl),  trivial⟩, (by rw [mulA_zero]; exact hS2)⟩ ?_
  rintro m_ _ Hl0 ⟨i, e0, rfl, hf, rfl, hSl0⟩
  try clear hS2
  have hm1 : (mulA .u64 5 xs ys i).length = 5 := mulA_length _ _ _ _ _
  refine AW.seq ?_
  refine AW.region ?_
  refine OpsW.q rfl (q_lss rfl rfl) ?_
  refine OpsW.nil ?_
  refine SeqP.go ?_
  refine AW.seq ?_
  refine AW.cond2 rfl (fun h0 => ?_) (fun h0 => ?_)
  ·
    try simp only [decide_eq_true_eq, decide_eq_false_iff_not, Bool.or_eq_true, Bool.and_eq_true, Bool.or_eq_false_iff, Bool.and_eq_false_imp, Bool.not_eq_true', Bool.not_eq_false', ne_eq, Decidable.not_not, Int.not_lt, Int.not_le, Bool.not_eq_true, Bool.not_eq_false] at h0
    refine AW.exit ?_
    refine SeqP.exit ?_
    refine LoopP.exit ?_
    obtain rfl : i = 5 := by omega
    refine BlockP.here ?_
    refine SeqP.go ?_
    refine AW.seq ?_
    refine AW.region ?_
    obtain ⟨Hf3, le3, hA3, hB3⟩ := hSl0.framed at0
    refine OpsW.m rfl (o_call rfl Try.func77 rfl rfl (carry_con hA3 (by rw [mulA_length]))) ?_
    rintro _ H3 ⟨rfl, hR3⟩
    have hS3 := hB3 _ _ hR3
    clear hR3 hB3 hA3
    clear hSl0
    have hcl : (carR .u64 67108864 67108863 5 (mulA .u64 5 xs ys 5) 2).length = 5 := by rw [carR_length, mulA_length]
    refine OpsW.nil ?_
    refine SeqP.go ?_
    refine AW.region ?_
    refine OpsW.q rfl (q_move (v := .pointer _) rfl) ?_
    refine OpsW.q rfl (q_loadAN (n := 5) (k := .u64) (by kernel_rfl) rfl (hS3.blk at0) (by with_reducible assumption)) ?_
    refine OpsW.q rfl (q_nilCheck rfl) ?_
    refine OpsW.ms (s_storeA (n := 5) (k := .u64) hS3 at2 (by kernel_rfl) rfl rfl (by with_reducible assumption) (by simp only [nums_length, List.length_set, List.length_replicate, List.length_take, List.length_drop, List.length_append, List.length_cons, List.length_nil, ofB_length, toB_length]; omega)) ?_
    rintro _ H4 ⟨rfl, hS4⟩
    clear hS3
    refine OpsW.nil ?_
    refine RetP.end0 (H' := H4) rfl (Hp.le_refl _) ?_
    exact ⟨rfl, by unfold timesP; exact hS4.tail.tail⟩
  try simp only [decide_eq_true_eq, decide_eq_false_iff_not, Bool.or_eq_true, Bool.and_eq_true, Bool.or_eq_false_iff, Bool.and_eq_false_imp, Bool.not_eq_true', Bool.not_eq_false', ne_eq, Decidable.not_not, Int.not_lt, Int.not_le, Bool.not_eq_true, Bool.not_eq_false] at h0
  refine AW.skip ?_
  refine SeqP.go ?_
  refine AW.seq ?_
  refine AW.block ?_
  refine AW.seq ?_
  refine AW.drawK [] 5 rfl (by kernel_rfl) ?_
  refine SeqK.q rfl (q_move (v := .int _ _) rfl) ?_
  refine SeqK.q rfl (q_nilCheck rfl) ?_
  refine SeqK.q rfl (q_indexAddrA0 Try.underlying72 (by kernel_rfl) rfl rfl (by omega) (by omega)) ?_
  refine SeqK.q rfl (q_loadN (by kernel_rfl) rfl (hSl0.blk at2) (by omega)) ?_
  refine SeqK.q rfl (q_assign (v := .int _ _) rfl) ?_
  refine SeqK.done ?_
  refine OpsW.q rfl (q_assign (v := .int _ _) rfl) ?_
  refine OpsW.nil ?_
  refine SeqP.go ?_
  refine AW.seq ?_
  refine AW.region ?_
  refine OpsW.q rfl (q_loadAN (n := 5) (k := .u64) (by kernel_rfl) rfl (hSl0.blk at1) (by with_reducible assumption)) ?_
  refine OpsW.q rfl (q_move (v := .int _ _) rfl) ?_
  refine OpsW.nil ?_
  refine SeqP.go ?_
  refine AW.block ?_
  refine AW.loop (fun m_ e_ H_ => ∃ (j : Nat) (e0 : Env), m_ = 5 - j ∧ (j ≤ 5) ∧ e_ = upds e0 [(0, .pointer (some ⟨b, 0, none⟩)), (3, .pointer (some ⟨b3, 0, none⟩)), (4, .pointer (some ⟨b4, 0, none⟩)), (5, .int .i64 (i : Int)), (6, .int .u64 (xs.getD i 0)), (9, .pointer (some ⟨b, 0, none⟩)), (10, .int .i64 (i : Int)), (16, .agg (nums .u64 ys).toArray), (17, .int .i64 (j : Int))] ∧ Sep H0 [.blk b4 ⟨nums .u64 ((mulR .u64 5 (xs.getD i 0) ys (mulA .u64 5 xs ys i) i j)), 5, 72⟩, .blk b3 ⟨nums .u64 ys, ys.length, 72⟩, .blk b ⟨nums .u64 xs, sz, el⟩] H_) _ ⟨0, _, rfl, (by omega), Slots.eq ⟨(by rfl), (by rfl), (by rfl), (by rfl), (by rfl), (by rfl), (by rfl), (by rfl), (by rfl),  trivial⟩, (by rw [mulR_zero]; exact hSl0)⟩ ?_
  rintro m_ _ Hl1 ⟨j, e0, rfl, hf, rfl, hSl1⟩
  try clear hSl0
  have hm2 : (mulR .u64 5 (xs.getD i 0) ys (mulA .u64 5 xs ys i) i j).length = 5 := by rw [mulR_length, hm1]
  refine AW.seq ?_
  refine AW.region ?_
  refine OpsW.q rfl (q_lss rfl rfl) ?_
  refine OpsW.nil ?_
  refine SeqP.go ?_
  refine AW.seq ?_
  refine AW.cond2 rfl (fun h1 => ?_) (fun h1 => ?_)
  ·
    try simp only [decide_eq_true_eq, decide_eq_false_iff_not, Bool.or_eq_true, Bool.and_eq_true, Bool.or_eq_false_iff, Bool.and_eq_false_imp, Bool.not_eq_true', Bool.not_eq_false', ne_eq, Decidable.not_not, Int.not_lt, Int.not_le, Bool.not_eq_true, Bool.not_eq_false] at h1
    refine AW.exit ?_
    refine SeqP.exit ?_
    refine LoopP.exit ?_
    obtain rfl : j = 5 := by omega
    refine BlockP.here ?_
    refine BlockP.go ?_
    refine SeqP.go ?_
    refine AW.region ?_
    refine OpsW.q rfl (q_addI rfl rfl (by omega)) ?_
    refine OpsW.q rfl (q_move (v := .int _ _) rfl) ?_
    refine OpsW.nil ?_
    exact LoopP.go _ (by omega) ⟨i + 1, _, rfl, (by omega), Slots.eq ⟨(by rfl), (by rfl), (by rfl), (by rfl), (by rfl),  trivial⟩, (by rw [mulA_succ]; exact hSl1)⟩
  try simp only [decide_eq_true_eq, decide_eq_false_iff_not, Bool.or_eq_true, Bool.and_eq_true, Bool.or_eq_false_iff, Bool.and_eq_false_imp, Bool.not_eq_true', Bool.not_eq_false', ne_eq, Decidable.not_not, Int.not_lt, Int.not_le, Bool.not_eq_true, Bool.not_eq_false] at h1
  refine AW.skip ?_
  refine SeqP.go ?_
  refine AW.seq ?_
  refine AW.block ?_
  refine AW.seq ?_
  refine AW.region ?_
  refine OpsW.q rfl (q_move (v := .int _ _) rfl) ?_
  refine OpsW.q rfl (q_indexAN (k := .u64) Try.underlying72 (by kernel_rfl) (by kernel_rfl) rfl rfl (by omega) (by omega) (by with_reducible assumption)) ?_
  refine OpsW.q rfl (q_assign (v := .int _ _) rfl) ?_
  refine OpsW.q rfl (q_assign (v := .int _ _) rfl) ?_
  refine OpsW.nil ?_
  refine SeqP.go ?_
  refine AW.seq ?_
  refine AW.region ?_
  refine OpsW.q rfl (q_move (v := .int _ _) rfl) ?_
  refine OpsW.q rfl (q_move (v := .int _ _) rfl) ?_
  refine OpsW.q rfl (q_addI rfl rfl (by omega)) ?_
  refine OpsW.q rfl (q_lss rfl rfl) ?_
  refine OpsW.nil ?_
  refine SeqP.go ?_
  refine AW.cond rfl (fun h2 => ?_) (fun h2 => ?_)
  ·
    try simp only [decide_eq_true_eq, decide_eq_false_iff_not, Bool.or_eq_true, Bool.and_eq_true, Bool.or_eq_false_iff, Bool.and_eq_false_imp, Bool.not_eq_true', Bool.not_eq_false', ne_eq, Decidable.not_not, Int.not_lt, Int.not_le, Bool.not_eq_true, Bool.not_eq_false] at h2
    refine AW.region ?_
    refine OpsW.q rfl (q_move (v := .int _ _) rfl) ?_
    refine OpsW.q rfl (q_move (v := .int _ _) rfl) ?_
    refine OpsW.q rfl (q_addI rfl rfl (by omega)) ?_
    refine OpsW.q rfl (q_indexAddrA0 Try.underlying72 (by kernel_rfl) rfl rfl (by omega) (by omega)) ?_
    refine OpsW.q rfl (q_loadN (by kernel_rfl) rfl (hSl1.blk at0) (by omega)) ?_
    refine OpsW.q rfl (q_move (v := .int _ _) rfl) ?_
    refine OpsW.q rfl (q_move (v := .int _ _) rfl) ?_
    refine OpsW.q rfl (q_mul rfl rfl) ?_
    refine OpsW.q rfl (q_add rfl rfl) ?_
    refine OpsW.q rfl (q_indexAddrA0 Try.underlying72 (by kernel_rfl) rfl rfl (by omega) (by omega)) ?_
    refine OpsW.ms (s_storeN hSl1 at0 (by kernel_rfl) rfl rfl (by omega)) ?_
    rintro _ H5 ⟨rfl, hS5⟩
    clear hSl1
    refine OpsW.nil ?_
    refine BlockP.go ?_
    refine SeqP.go ?_
    refine AW.region ?_
    refine OpsW.q rfl (q_addI rfl rfl (by omega)) ?_
    refine OpsW.q rfl (q_move (v := .int _ _) rfl) ?_
    refine OpsW.nil ?_
    exact LoopP.go _ (by omega) ⟨j + 1, _, rfl, (by omega), Slots.eq ⟨(by rfl), (by rfl), (by rfl), (by rfl), (by rfl), (by rfl), (by rfl), (by rfl), (by rfl),  trivial⟩, (by rw [mulR_succ, mulC_lt (by omega)]; have hs := hS5; rw [show ((i : Int) + (j : Int)).toNat = i + j from by omega] at hs; exact hs)⟩
  try simp only [decide_eq_true_eq, decide_eq_false_iff_not, Bool.or_eq_true, Bool.and_eq_true, Bool.or_eq_false_iff, Bool.and_eq_false_imp, Bool.not_eq_true', Bool.not_eq_false', ne_eq, Decidable.not_not, Int.not_lt, Int.not_le, Bool.not_eq_true, Bool.not_eq_false] at h2
  refine AW.region ?_
  refine OpsW.q rfl (q_move (v := .int _ _) rfl) ?_
  refine OpsW.q rfl (q_move (v := .int _ _) rfl) ?_
  refine OpsW.q rfl (q_addI rfl rfl (by omega)) ?_
  refine OpsW.q rfl (q_subI rfl rfl (by omega)) ?_
  refine OpsW.q rfl (q_indexAddrA0 Try.underlying72 (by kernel_rfl) rfl rfl (by omega) (by omega)) ?_
  refine OpsW.q rfl (q_loadN (by kernel_rfl) rfl (hSl1.blk at0) (by omega)) ?_
  refine OpsW.q rfl (q_move (v := .int _ _) rfl) ?_
  refine OpsW.q rfl (q_mul rfl rfl) ?_
  refine OpsW.q rfl (q_move (v := .int _ _) rfl) ?_
  refine OpsW.q rfl (q_mul rfl rfl) ?_
  refine OpsW.q rfl (q_add rfl rfl) ?_
  refine OpsW.q rfl (q_indexAddrA0 Try.underlying72 (by kernel_rfl) rfl rfl (by omega) (by omega)) ?_
  refine OpsW.ms (s_storeN hSl1 at0 (by kernel_rfl) rfl rfl (by omega)) ?_
  rintro _ H6 ⟨rfl, hS6⟩
  clear hSl1
  refine OpsW.nil ?_
  refine BlockP.go ?_
  refine SeqP.go ?_
  refine AW.region ?_
  refine OpsW.q rfl (q_addI rfl rfl (by omega)) ?_
  refine OpsW.q rfl (q_move (v := .int _ _) rfl) ?_
  refine OpsW.nil ?_
  exact LoopP.go _ (by omega) ⟨j + 1, _, rfl, (by omega), Slots.eq ⟨(by rfl), (by rfl), (by rfl), (by rfl), (by rfl), (by rfl), (by rfl), (by rfl), (by rfl),  trivial⟩, (by rw [mulR_succ, mulC_ge (by omega)]; have hs := hS6; rw [show ((i : Int) + (j : Int) - 5).toNat = i + j - 5 from by omega] at hs; exact hs)⟩
theorem rest_con {b sz : Nat} {el : TypeId} {xs : List Int} (hS0 : Sep H0 [.blk b ⟨nums .u64 xs, sz, el⟩] H) (hl : xs.length = 5) : Con Try.prog w0 56 #[.pointer (some ⟨b, 0, none⟩)] H (fun v H' => v = .tuple #[] ∧ Sep H0 [.blk b ⟨nums .u64 (restP (carR .u64 67108864 67108863 5 xs 2)), sz, el⟩] H') := by
  obtain ⟨ys, hys⟩ : ∃ ys, ys = carR .u64 67108864 67108863 5 xs 2 := ⟨_, rfl⟩
  have hy : ys.length = 5 := by rw [hys, carR_length, hl]
  rw [← hys]
  refine Con.intro Try.func56 rfl rfl ?_
  refine AW.seq ?_
  refine AW.region ?_
  refine OpsW.q rfl (q_move (v := .pointer _) rfl) ?_
  obtain ⟨Hf1, le1, hA1, hB1⟩ := hS0.framed at0
  refine OpsW.m rfl (o_call rfl Try.func77 rfl rfl (carry_con hA1 hl)) ?_
  rintro _ H1 ⟨rfl, hR1⟩
  have hS1 := hB1 _ _ hR1
  clear hR1 hB1 hA1
  clear hS0
  rw [← hys] at hS1
  refine OpsW.nil ?_
  refine SeqP.go ?_
  refine AW.seq ?_
  refine AW.region ?_
  refine OpsW.q rfl (q_move (v := .pointer _) rfl) ?_
  refine OpsW.q rfl (q_nilCheck rfl) ?_
  refine OpsW.q rfl (q_loadAN (n := 5) (k := .u64) (by kernel_rfl) rfl (hS1.blk at0) (by with_reducible assumption)) ?_
  refine OpsW.m rfl (s_allocN (k := .u64) (m := 5) hS1 (by kernel_rfl)) ?_
  rintro _ H2 ⟨b2, rfl, hS2⟩
  clear hS1
  refine OpsW.ms (s_storeA (n := 5) (k := .u64) hS2 at0 (by kernel_rfl) rfl rfl (by with_reducible assumption) (by rfl)) ?_
  rintro _ H3 ⟨rfl, hS3⟩
  clear hS2
  refine OpsW.nil ?_
  refine SeqP.go ?_
  refine AW.seq ?_
  refine AW.region ?_
  refine OpsW.q rfl (q_indexAddrA0 Try.underlying72 (by kernel_rfl) rfl rfl (by omega) (by omega)) ?_
  refine OpsW.q rfl (q_loadN (by kernel_rfl) rfl (hS3.blk at0) (by omega)) ?_
  refine OpsW.q rfl (q_add rfl rfl) ?_
  refine OpsW.q rfl (q_indexAddrA0 Try.underlying72 (by kernel_rfl) rfl rfl (by omega) (by omega)) ?_
  refine OpsW.ms (s_storeN hS3 at0 (by kernel_rfl) rfl rfl (by omega)) ?_
  rintro _ H4 ⟨rfl, hS4⟩
  clear hS3
  refine OpsW.nil ?_
  refine SeqP.go ?_
  refine AW.seq ?_
  refine AW.seq ?_
  refine AW.region ?_
  refine OpsW.q rfl (q_move (v := .int _ _) rfl) ?_
  refine OpsW.nil ?_
  refine SeqP.go ?_
  refine AW.block ?_
  refine AW.loop (fun m_ e_ H_ => ∃ (i : Nat) (e0 : Env), m_ = 4 - i ∧ (i ≤ 4) ∧ e_ = upds e0 [(0, .pointer (some ⟨b, 0, none⟩)), (2, .pointer (some ⟨b2, 0, none⟩)), (13, .int .i64 (i : Int))] ∧ Sep H0 [.blk b2 ⟨nums .u64 ((restK ys i)), 5, 72⟩, .blk b ⟨nums .u64 ys, sz, el⟩] H_) _ ⟨0, _, rfl, (by omega), Slots.eq ⟨(by rfl), (by rfl), (by rfl),  trivial⟩, (by rw [restK_zero]; exact hS4)⟩ ?_
  rintro m_ _ Hl0 ⟨i, e0, rfl, hf, rfl, hSl0⟩
  try clear hS4
  have hr1 : (restK ys i).length = 5 := by rw [restK_length, hy]
  refine AW.seq ?_
  refine AW.region ?_
  refine OpsW.q rfl (q_lss rfl rfl) ?_
  refine OpsW.nil ?_
  refine SeqP.go ?_
  refine AW.seq ?_
  refine AW.cond2 rfl (fun h0 => ?_) (fun h0 => ?_)
  ·
    try simp only [decide_eq_true_eq, decide_eq_false_iff_not, Bool.or_eq_true, Bool.and_eq_true, Bool.or_eq_false_iff, Bool.and_eq_false_imp, Bool.not_eq_true', Bool.not_eq_false', ne_eq, Decidable.not_not, Int.not_lt, Int.not_le, Bool.not_eq_true, Bool.not_eq_false] at h0
    refine AW.exit ?_
    refine SeqP.exit ?_
    refine LoopP.exit ?_
    obtain rfl : i = 4 := by omega
    refine BlockP.here ?_
    refine SeqP.go ?_
    refine AW.seq ?_
    refine AW.region ?_
    refine OpsW.q rfl (q_indexAddrA0 Try.underlying72 (by kernel_rfl) rfl rfl (by omega) (by omega)) ?_
    refine OpsW.q rfl (q_loadN (by kernel_rfl) rfl (hSl0.blk at0) (by omega)) ?_
    refine OpsW.q rfl (q_shrL 26 rfl rfl (by decide) rfl) ?_
    refine OpsW.q rfl (q_gtr rfl rfl) ?_
    refine OpsW.nil ?_
    refine SeqP.go ?_
    refine AW.cond rfl (fun h1 => ?_) (fun h1 => ?_)
    ·
      try simp only [decide_eq_true_eq, decide_eq_false_iff_not, Bool.or_eq_true, Bool.and_eq_true, Bool.or_eq_false_iff, Bool.and_eq_false_imp, Bool.not_eq_true', Bool.not_eq_false', ne_eq, Decidable.not_not, Int.not_lt, Int.not_le, Bool.not_eq_true, Bool.not_eq_false] at h1
      rw [restP_yes (by simpa using h1)]
      refine AW.seq ?_
      refine AW.region ?_
      refine OpsW.q rfl (q_indexAddrA0 Try.underlying72 (by kernel_rfl) rfl rfl (by omega) (by omega)) ?_
      refine OpsW.q rfl (q_loadN (by kernel_rfl) rfl (hSl0.blk at0) (by omega)) ?_
      refine OpsW.q rfl (q_and rfl rfl) ?_
      refine OpsW.q rfl (q_indexAddrA0 Try.underlying72 (by kernel_rfl) rfl rfl (by omega) (by omega)) ?_
      refine OpsW.ms (s_storeN hSl0 at0 (by kernel_rfl) rfl rfl (by omega)) ?_
      rintro _ H5 ⟨rfl, hS5⟩
      clear hSl0
      refine OpsW.nil ?_
      refine SeqP.go ?_
      refine AW.region ?_
      refine OpsW.q rfl (q_move (v := .pointer _) rfl) ?_
      refine OpsW.q rfl (q_loadAN (n := 5) (k := .u64) (by kernel_rfl) rfl (hS5.blk at0) (by simp only [nums_length, List.length_set, List.length_replicate, List.length_take, List.length_drop, List.length_append, List.length_cons, List.length_nil, ofB_length, toB_length]; omega)) ?_
      refine OpsW.q rfl (q_nilCheck rfl) ?_
      refine OpsW.ms (s_storeA (n := 5) (k := .u64) hS5 at1 (by kernel_rfl) rfl rfl (by simp only [nums_length, List.length_set, List.length_replicate, List.length_take, List.length_drop, List.length_append, List.length_cons, List.length_nil, ofB_length, toB_length]; omega) (by simp only [nums_length, List.length_set, List.length_replicate, List.length_take, List.length_drop, List.length_append, List.length_cons, List.length_nil, ofB_length, toB_length]; omega)) ?_
      rintro _ H6 ⟨rfl, hS6⟩
      clear hS5
      refine OpsW.nil ?_
      refine RetP.end0 (H' := H6) rfl (Hp.le_refl _) ?_
      exact ⟨rfl, hS6.tail⟩
    try simp only [decide_eq_true_eq, decide_eq_false_iff_not, Bool.or_eq_true, Bool.and_eq_true, Bool.or_eq_false_iff, Bool.and_eq_false_imp, Bool.not_eq_true', Bool.not_eq_false', ne_eq, Decidable.not_not, Int.not_lt, Int.not_le, Bool.not_eq_true, Bool.not_eq_false] at h1
    rw [restP_no (by simpa using h1)]
    refine AW.skip ?_
    refine RetP.end0 (H' := Hl0) rfl (Hp.le_refl _) ?_
    exact ⟨rfl, hSl0.tail⟩
  try simp only [decide_eq_true_eq, decide_eq_false_iff_not, Bool.or_eq_true, Bool.and_eq_true, Bool.or_eq_false_iff, Bool.and_eq_false_imp, Bool.not_eq_true', Bool.not_eq_false', ne_eq, Decidable.not_not, Int.not_lt, Int.not_le, Bool.not_eq_true, Bool.not_eq_false] at h0
  refine AW.skip ?_
  refine SeqP.go ?_
  refine AW.seq ?_
  refine AW.block ?_
  refine AW.seq ?_
  refine AW.region ?_
  refine OpsW.q rfl (q_move (v := .int _ _) rfl) ?_
  refine OpsW.q rfl (q_assign (v := .int _ _) rfl) ?_
  refine OpsW.nil ?_
  refine SeqP.go ?_
  refine AW.seq ?_
  refine AW.drawK [] 8 rfl (by kernel_rfl) ?_
  refine SeqK.q rfl (q_move (v := .int _ _) rfl) ?_
  refine SeqK.q rfl (q_addI rfl rfl (by omega)) ?_
  refine SeqK.q rfl (q_indexAddrA0 Try.underlying72 (by kernel_rfl) rfl rfl (by omega) (by omega)) ?_
  refine SeqK.q rfl (q_loadN (by kernel_rfl) rfl (hSl0.blk at0) (by omega)) ?_
  refine SeqK.q rfl (q_move (v := .int _ _) rfl) ?_
  refine SeqK.q rfl (q_indexAddrA0 Try.underlying72 (by kernel_rfl) rfl rfl (by omega) (by omega)) ?_
  refine SeqK.q rfl (q_loadN (by kernel_rfl) rfl (hSl0.blk at0) (by omega)) ?_
  refine SeqK.q rfl (q_shrL 26 rfl rfl (by decide) rfl) ?_
  refine SeqK.done ?_
  refine OpsW.q rfl (q_add rfl rfl) ?_
  refine OpsW.q rfl (q_indexAddrA0 Try.underlying72 (by kernel_rfl) rfl rfl (by omega) (by omega)) ?_
  refine OpsW.ms (s_storeN hSl0 at0 (by kernel_rfl) rfl rfl (by omega)) ?_
  rintro _ H7 ⟨rfl, hS7⟩
  clear hSl0
  refine OpsW.nil ?_
  refine SeqP.go ?_
  refine AW.region ?_
  refine OpsW.q rfl (q_move (v := .int _ _) rfl) ?_
  refine OpsW.q rfl (q_indexAddrA0 Try.underlying72 (by kernel_rfl) rfl rfl (by omega) (by omega)) ?_
  refine OpsW.q rfl (q_loadN (by kernel_rfl) rfl (hS7.blk at0) (by simp only [nums_length, List.length_set, List.length_replicate, List.length_take, List.length_drop, List.length_append, List.length_cons, List.length_nil, ofB_length, toB_length]; omega)) ?_
  refine OpsW.q rfl (q_and rfl rfl) ?_
  refine OpsW.q rfl (q_indexAddrA0 Try.underlying72 (by kernel_rfl) rfl rfl (by omega) (by omega)) ?_
  refine OpsW.ms (s_storeN hS7 at0 (by kernel_rfl) rfl rfl (by simp only [nums_length, List.length_set, List.length_replicate, List.length_take, List.length_drop, List.length_append, List.length_cons, List.length_nil, ofB_length, toB_length]; omega)) ?_
  rintro _ H8 ⟨rfl, hS8⟩
  clear hS7
  refine OpsW.nil ?_
  refine BlockP.go ?_
  refine SeqP.go ?_
  refine AW.region ?_
  refine OpsW.q rfl (q_addI rfl rfl (by omega)) ?_
  refine OpsW.q rfl (q_move (v := .int _ _) rfl) ?_
  refine OpsW.nil ?_
  exact LoopP.go _ (by omega) ⟨i + 1, _, rfl, (by omega), Slots.eq ⟨(by rfl), (by rfl), (by rfl),  trivial⟩, (by rw [restK_succ]; unfold restS; have hs := hS8; rw [show ((i : Int) + 1).toNat = i + 1 from by omega] at hs; exact hs)⟩
theorem bytes_con {V : Nat} : Con Try.prog w0 57 #[.agg (nums .u64 (grps 26 5 130 V)).toArray] H (fun v H' => v = .agg (nums .u8 (grps 8 16 128 V)).toArray ∧ H' = H) := by
  have hS0 : Sep H [] H := Sep.refl
  have hg5 := grps_length 26 5 130 V
  refine Con.intro Try.func57 rfl rfl ?_
  refine AW.seq ?_
  refine AW.region ?_
  refine OpsW.m rfl (s_boxN (k := .u64) hS0 rfl) ?_
  rintro _ H1 ⟨b1, rfl, hS1⟩
  clear hS0
  refine OpsW.m rfl (s_allocN (k := .u8) (m := 16) hS1 (by kernel_rfl)) ?_
  rintro _ H2 ⟨b2, rfl, hS2⟩
  clear hS1
  refine OpsW.nil ?_
  refine SeqP.go ?_
  refine AW.seq ?_
  refine AW.region ?_
  refine OpsW.m rfl (s_allocN (k := .u8) (m := 16) hS2 (by kernel_rfl)) ?_
  rintro _ H3 ⟨b3, rfl, hS3⟩
  clear hS2
  refine OpsW.nil ?_
  refine SeqP.go ?_
  refine AW.seq ?_
  refine AW.seq ?_
  refine AW.region ?_
  refine OpsW.q rfl (q_move (v := .int _ _) rfl) ?_
  refine OpsW.nil ?_
  refine SeqP.go ?_
  refine AW.block ?_
  refine AW.loop (fun m_ e_ H_ => ∃ (i : Nat) (e0 : Env), m_ = 128 - i ∧ (i ≤ 128) ∧ e_ = upds e0 [(1, .pointer (some ⟨b1, 0, none⟩)), (2, .pointer (some ⟨b2, 0, none⟩)), (3, .pointer (some ⟨b3, 0, none⟩)), (5, .int .i64 (i : Int))] ∧ Sep H [.blk b3 ⟨nums .u8 ((grps 8 16 i V)), 16, 77⟩, .blk b2 ⟨nums .u8 ((List.replicate 16 0)), 16, 77⟩, .blk b1 ⟨nums .u64 ((grps 26 5 130 V)), (grps 26 5 130 V).length, 72⟩] H_) _ ⟨0, _, rfl, (by omega), Slots.eq ⟨(by rfl), (by rfl), (by rfl), (by rfl),  trivial⟩, (by rw [grps_zero]; exact hS3)⟩ ?_
  rintro m_ _ Hl0 ⟨i, e0, rfl, hf, rfl, hSl0⟩
  try clear hS3
  have hg16 := grps_length 8 16 i V
  refine AW.seq ?_
  refine AW.region ?_
  refine OpsW.q rfl (q_lss rfl rfl) ?_
  refine OpsW.nil ?_
  refine SeqP.go ?_
  refine AW.seq ?_
  refine AW.cond2 rfl (fun h0 => ?_) (fun h0 => ?_)
  ·
    try simp only [decide_eq_true_eq, decide_eq_false_iff_not, Bool.or_eq_true, Bool.and_eq_true, Bool.or_eq_false_iff, Bool.and_eq_false_imp, Bool.not_eq_true', Bool.not_eq_false', ne_eq, Decidable.not_not, Int.not_lt, Int.not_le, Bool.not_eq_true, Bool.not_eq_false] at h0
    refine AW.exit ?_
    refine SeqP.exit ?_
    refine LoopP.exit ?_
    obtain rfl : i = 128 := by omega
    refine BlockP.here ?_
    refine SeqP.go ?_
    refine AW.seq ?_
    refine AW.region ?_
    refine OpsW.q rfl (q_loadAN (n := 16) (k := .u8) (by kernel_rfl) rfl (hSl0.blk at0) (by with_reducible assumption)) ?_
    refine OpsW.ms (s_storeA (n := 16) (k := .u8) hSl0 at1 (by kernel_rfl) rfl rfl (by with_reducible assumption) (by rfl)) ?_
    rintro _ H4 ⟨rfl, hS4⟩
    clear hSl0
    refine OpsW.nil ?_
    refine SeqP.go ?_
    refine AW.ret ?_
    refine RetP.mkc (m := 16) (H' := H) rfl rfl (hS4.blk at1) (by simp only [nums_length, List.length_set, List.length_replicate, List.length_take, List.length_drop, List.length_append, List.length_cons, List.length_nil, ofB_length, toB_length]; omega) (by kernel_rfl) hS4.le ?_
    exact ⟨rfl, rfl⟩
  try simp only [decide_eq_true_eq, decide_eq_false_iff_not, Bool.or_eq_true, Bool.and_eq_true, Bool.or_eq_false_iff, Bool.and_eq_false_imp, Bool.not_eq_true', Bool.not_eq_false', ne_eq, Decidable.not_not, Int.not_lt, Int.not_le, Bool.not_eq_true, Bool.not_eq_false] at h0
  refine AW.skip ?_
  refine SeqP.go ?_
  refine AW.seq ?_
  refine AW.block ?_
  refine AW.seq ?_
  refine AW.region ?_
  refine OpsW.q rfl (q_move (v := .int _ _) rfl) ?_
  refine OpsW.q rfl (q_assign (v := .int _ _) rfl) ?_
  refine OpsW.nil ?_
  refine SeqP.go ?_
  refine AW.drawK [] 16 rfl (by kernel_rfl) ?_
  refine SeqK.q rfl (q_move (v := .int _ _) rfl) ?_
  refine SeqK.q rfl (q_quoI rfl rfl (by omega)) ?_
  refine SeqK.q rfl (q_indexAddrA0 Try.underlying77 (by kernel_rfl) rfl rfl (by omega) (by omega)) ?_
  refine SeqK.q rfl (q_loadN (by kernel_rfl) rfl (hSl0.blk at0) (by omega)) ?_
  refine SeqK.q rfl (q_move (v := .int _ _) rfl) ?_
  refine SeqK.q rfl (q_quoI rfl rfl (by omega)) ?_
  refine SeqK.q rfl (q_indexAddrA0 Try.underlying72 (by kernel_rfl) rfl rfl (by omega) (by omega)) ?_
  refine SeqK.q rfl (q_loadN (by kernel_rfl) rfl (hSl0.blk at2) (by omega)) ?_
  refine SeqK.q rfl (q_move (v := .int _ _) rfl) ?_
  refine SeqK.q rfl (q_remI rfl rfl (by omega)) ?_
  refine SeqK.q rfl (q_shr rfl rfl (by omega)) ?_
  refine SeqK.q rfl (q_and rfl rfl) ?_
  refine SeqK.q rfl (q_convInt rfl Try.underlying5 rfl) ?_
  refine SeqK.q rfl (q_move (v := .int _ _) rfl) ?_
  refine SeqK.q rfl (q_remI rfl rfl (by omega)) ?_
  refine SeqK.q rfl (q_shl rfl rfl (by omega)) ?_
  refine SeqK.done ?_
  refine OpsW.q rfl (q_or rfl rfl) ?_
  refine OpsW.q rfl (q_indexAddrA0 Try.underlying77 (by kernel_rfl) rfl rfl (by omega) (by omega)) ?_
  refine OpsW.ms (s_storeN hSl0 at0 (by kernel_rfl) rfl rfl (by omega)) ?_
  rintro _ H5 ⟨rfl, hS5⟩
  clear hSl0
  refine OpsW.nil ?_
  refine BlockP.go ?_
  refine SeqP.go ?_
  refine AW.region ?_
  refine OpsW.q rfl (q_addI rfl rfl (by omega)) ?_
  refine OpsW.q rfl (q_move (v := .int _ _) rfl) ?_
  refine OpsW.nil ?_
  exact LoopP.go _ (by omega) ⟨i + 1, _, rfl, (by omega), Slots.eq ⟨(by rfl), (by rfl), (by rfl), (by rfl),  trivial⟩, (by rw [← bytes_step (by omega)]; exact hS5)⟩
theorem clamped_con {key : List UInt8} (hk : key.length = 32) : Con Try.prog w0 52 #[S key] H (fun v H' => v = .agg (nums .u64 (ofL (clK (ofB (key.take 16) ++ [0]) 4))).toArray ∧ H' = H) := by
  have hS0 : Sep H [] H := Sep.refl
  have hk16 : (key.take 16).length = 16 := by rw [List.length_take, hk]; decide
  refine Con.intro Try.func52 rfl rfl ?_
  refine AW.seq ?_
  refine AW.region ?_
  refine OpsW.m rfl (s_allocN (k := .u64) (m := 5) hS0 (by kernel_rfl)) ?_
  rintro _ H1 ⟨b2, rfl, hS1⟩
  clear hS0
  refine OpsW.nil ?_
  refine SeqP.go ?_
  refine AW.seq ?_
  refine AW.region ?_
  refine OpsW.m rfl (s_allocN (k := .u8) (m := 17) hS1 (by kernel_rfl)) ?_
  rintro _ H2 ⟨b3, rfl, hS2⟩
  clear hS1
  refine OpsW.nil ?_
  refine SeqP.go ?_
  refine AW.seq ?_
  refine AW.drawK [] 3 rfl (by kernel_rfl) ?_
  refine SeqK.q rfl (q_sliceArr_all (sz := 1) Try.underlying74 (by kernel_rfl) rfl ) ?_
  refine SeqK.q rfl (q_move (v := S _) rfl) ?_
  refine SeqK.q rfl (q_sliceS_hi Try.underlying9 rfl rfl (by omega) (by omega)) ?_
  refine SeqK.done ?_
  refine OpsW.m rfl (s_copyN hS2 at0 Try.underlying33 (by kernel_rfl) rfl rfl (by simp only [nums_length, List.length_set, List.length_replicate, List.length_take, List.length_drop, List.length_append, List.length_cons, List.length_nil, ofB_length, toB_length]; omega) src_str) ?_
  rintro _ H3 ⟨rfl, hS3⟩
  clear hS2
  have hs := hS3
  rw [show (List.take 0 (List.replicate 17 (0 : Int)) ++ (ofB (key.take (16 : Int).toNat)).take (min (key.take (16 : Int).toNat).length 17) ++ List.drop (0 + ((ofB (key.take (16 : Int).toNat)).take (min (key.take (16 : Int).toNat).length 17)).length) (List.replicate 17 (0 : Int))) = ofB (key.take 16) ++ [0] from clamp_start hk16] at hs
  replace hS3 := hs
  clear hs
  refine OpsW.nil ?_
  refine SeqP.go ?_
  refine AW.seq ?_
  refine AW.seq ?_
  refine AW.region ?_
  refine OpsW.q rfl (q_assign (v := .int _ _) rfl) ?_
  refine OpsW.nil ?_
  refine SeqP.go ?_
  refine AW.block ?_
  refine AW.loop (fun m_ e_ H_ => ∃ (j : Nat) (e0 : Env), m_ = 4 - j ∧ (j ≤ 4) ∧ e_ = upds e0 [(2, .pointer (some ⟨b2, 0, none⟩)), (3, .pointer (some ⟨b3, 0, none⟩)), (4, .int .i64 ((4 * j + 3 : Nat) : Int))] ∧ Sep H [.blk b3 ⟨nums .u8 ((clK (ofB (key.take 16) ++ [0]) j)), 17, 74⟩, .blk b2 ⟨nums .u64 ((List.replicate 5 0)), 5, 72⟩] H_) _ ⟨0, _, rfl, (by omega), Slots.eq ⟨(by rfl), (by rfl), (by rfl),  trivial⟩, (by rw [clK_zero]; exact hS3)⟩ ?_
  rintro m_ _ Hl0 ⟨j, e0, rfl, hf, rfl, hSl0⟩
  try clear hS3
  have hc1 : (clK (ofB (key.take 16) ++ [0]) j).length = 17 := by rw [clK_length, List.length_append, ofB_length, hk16]; rfl
  refine AW.seq ?_
  refine AW.seq ?_
  refine AW.region ?_
  refine OpsW.q rfl (q_move (v := .int _ _) rfl) ?_
  refine OpsW.q rfl (q_lss rfl rfl) ?_
  refine OpsW.nil ?_
  refine SeqP.go ?_
  refine AW.cond2 rfl (fun h0 => ?_) (fun h0 => ?_)
  ·
    try simp only [decide_eq_true_eq, decide_eq_false_iff_not, Bool.or_eq_true, Bool.and_eq_true, Bool.or_eq_false_iff, Bool.and_eq_false_imp, Bool.not_eq_true', Bool.not_eq_false', ne_eq, Decidable.not_not, Int.not_lt, Int.not_le, Bool.not_eq_true, Bool.not_eq_false] at h0
    refine AW.exit ?_
    refine SeqP.exit ?_
    refine LoopP.exit ?_
    obtain rfl : j = 4 := by omega
    have hc4 := hc1
    have hcB := cl_bytes hk16
    have ho5 := ofL_length (clK (ofB (key.take 16) ++ [0]) 4)
    refine BlockP.here ?_
    refine SeqP.go ?_
    refine AW.seq ?_
    refine AW.region ?_
    refine OpsW.q rfl (q_loadAN (n := 17) (k := .u8) (by kernel_rfl) rfl (hSl0.blk at0) (by with_reducible assumption)) ?_
    refine OpsW.q rfl (o_call rfl Try.func54 rfl rfl (of_con hc4 hcB)) ?_
    refine OpsW.ms (s_storeA (n := 5) (k := .u64) hSl0 at1 (by kernel_rfl) rfl rfl (by with_reducible assumption) (by rfl)) ?_
    rintro _ H4 ⟨rfl, hS4⟩
    clear hSl0
    refine OpsW.nil ?_
    refine SeqP.go ?_
    refine AW.ret ?_
    refine RetP.mkc (m := 5) (H' := H) rfl rfl (hS4.blk at1) (by simp only [nums_length, List.length_set, List.length_replicate, List.length_take, List.length_drop, List.length_append, List.length_cons, List.length_nil, ofB_length, toB_length]; omega) (by kernel_rfl) hS4.le ?_
    exact ⟨rfl, rfl⟩
  try simp only [decide_eq_true_eq, decide_eq_false_iff_not, Bool.or_eq_true, Bool.and_eq_true, Bool.or_eq_false_iff, Bool.and_eq_false_imp, Bool.not_eq_true', Bool.not_eq_false', ne_eq, Decidable.not_not, Int.not_lt, Int.not_le, Bool.not_eq_true, Bool.not_eq_false] at h0
  refine AW.skip ?_
  refine SeqP.go ?_
  refine AW.seq ?_
  refine AW.block ?_
  refine AW.seq ?_
  refine AW.region ?_
  refine OpsW.q rfl (q_move (v := .int _ _) rfl) ?_
  refine OpsW.q rfl (q_indexAddrA0 Try.underlying74 (by kernel_rfl) rfl rfl (by omega) (by omega)) ?_
  refine OpsW.q rfl (q_loadN (by kernel_rfl) rfl (hSl0.blk at0) (by omega)) ?_
  refine OpsW.q rfl (q_and rfl rfl) ?_
  refine OpsW.q rfl (q_indexAddrA0 Try.underlying74 (by kernel_rfl) rfl rfl (by omega) (by omega)) ?_
  refine OpsW.ms (s_storeN hSl0 at0 (by kernel_rfl) rfl rfl (by omega)) ?_
  rintro _ H5 ⟨rfl, hS5⟩
  clear hSl0
  refine OpsW.nil ?_
  refine SeqP.go ?_
  refine AW.region ?_
  refine OpsW.q rfl (q_move (v := .int _ _) rfl) ?_
  refine OpsW.q rfl (q_addI rfl rfl (by omega)) ?_
  refine OpsW.q rfl (q_remI rfl rfl (by omega)) ?_
  refine OpsW.q rfl (q_indexAddrA0 Try.underlying74 (by kernel_rfl) rfl rfl (by omega) (by omega)) ?_
  refine OpsW.q rfl (q_loadN (by kernel_rfl) rfl (hS5.blk at0) (by simp only [nums_length, List.length_set, List.length_replicate, List.length_take, List.length_drop, List.length_append, List.length_cons, List.length_nil, ofB_length, toB_length]; omega)) ?_
  refine OpsW.q rfl (q_move (v := .int _ _) rfl) ?_
  refine OpsW.q rfl (q_quoI rfl rfl (by omega)) ?_
  refine OpsW.q rfl (q_mulI rfl rfl (by omega)) ?_
  refine OpsW.q rfl (q_convInt rfl Try.underlying5 rfl) ?_
  refine OpsW.q rfl (q_or rfl rfl) ?_
  refine OpsW.q rfl (q_and rfl rfl) ?_
  refine OpsW.q rfl (q_indexAddrA0 Try.underlying74 (by kernel_rfl) rfl rfl (by omega) (by omega)) ?_
  refine OpsW.ms (s_storeN hS5 at0 (by kernel_rfl) rfl rfl (by simp only [nums_length, List.length_set, List.length_replicate, List.length_take, List.length_drop, List.length_append, List.length_cons, List.length_nil, ofB_length, toB_length]; omega)) ?_
  rintro _ H6 ⟨rfl, hS6⟩
  clear hS5
  refine OpsW.nil ?_
  refine BlockP.go ?_
  refine SeqP.go ?_
  refine AW.region ?_
  refine OpsW.q rfl (q_move (v := .int _ _) rfl) ?_
  refine OpsW.q rfl (q_addI rfl rfl (by omega)) ?_
  refine OpsW.q rfl (q_assign (v := .int _ _) rfl) ?_
  refine OpsW.nil ?_
  exact LoopP.go _ (by omega) ⟨j + 1, _, rfl, (by omega), Slots.eq ⟨(by rfl), (by rfl), (by rfl),  trivial⟩, (by rw [clK_succ]; unfold clS; have hs := hS6; rw [Int.toNat_natCast, show ((((4 * j + 3 : Nat) : Int) + 1) % 16).toNat = (4 * j + 4) % 16 from by omega] at hs; exact hs)⟩
end
end Go.Proofs.Ytkfdoicjpoofhaa.Po
end
