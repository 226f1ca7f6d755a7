/-
  The proof's texts, joined, without what the statements do not reach: part 4 of 5. No condition.
-/
import Derived.WalkKit
import Derived.KernelRfl
import Derived.Lib.ConvBytes
import Derived.WalkSpells
import Derived.WalkLawsBesides
import Derived.ProofKit
import Derived.ChangeMaps5
import Derived.ChangeSlices
import Derived.Deep.Strs
import Derived.DataElems
import Derived.OpenShut
import Derived.Test.YtfiojlmccflplaaProg
import Derived.MapKept
import Derived.Laws.StructEq
import Derived.Test.YtfiojlmccflplaaLc
section
namespace Go.Proofs.Ytfiojlmccflplaa
open Go Go.RowKit D
set_option linter.unusedVariables false
set_option linter.unusedSimpArgs false
set_option maxRecDepth 100000
set_option maxHeartbeats 2000000
section
variable {w0 : World} {H : Hp} {H0 : Hp}
def kHead (bp : Nat) : List Value := [.int .i64 32, .int .i64 64, .int .i64 7, .int .i64 18, .int .i64 3, .int .i64 17, .int .i64 19, .int .i64 10, .int .i64 6, .int .i64 11, .int .i64 25, .int .i64 2, .int .i64 13, .int .i64 22, .func (.func 67) #[] #[.pointer (some ⟨bp, 0, none⟩)]]
def kCells (bp : Nat) : List Value := kHead bp ++ nums .u32 startW
theorem kCells_start (bp : Nat) : ((kCells bp).drop 15).take (nums .u32 startW).length = nums .u32 startW := by
  unfold kCells; rw [show List.drop 15 (kHead bp ++ nums .u32 startW) = nums .u32 startW from rfl, List.take_length]
theorem rep_cons {n t : Nat} (h : t < n) : List.replicate (n - t) (0 : Int) = 0 :: List.replicate (n - (t + 1)) 0 := by rw [show n - t = (n - (t + 1)) + 1 from by omega, List.replicate_succ]
theorem mid_get {l r : List Int} {a : Int} {t : Nat} (h : l.length = t) : (l ++ a :: r).getD t 0 = a := by
  rw [List.getD_eq_getElem?_getD, List.getElem?_append_right (by omega), h, Nat.sub_self]; rfl
theorem mid_set {l r : List Int} {a b : Int} {t : Nat} (h : l.length = t) : (l ++ a :: r).set t b = l ++ b :: r := by
  rw [List.set_append, if_neg (by omega), h, Nat.sub_self, List.set_cons_zero]
theorem lo_get {l r : List Int} {i : Nat} (h : i < l.length) : (l ++ r).getD i 0 = l.getD i 0 := by
  rw [List.getD_eq_getElem?_getD, List.getElem?_append_left h, ← List.getD_eq_getElem?_getD]
theorem k_con {bp bc : Nat} {t : Nat} (ht : t < 80) (hp : H bp = some ⟨[.pointer (some ⟨bc, 0, none⟩)], 1, 110⟩) (hc : H bc = some ⟨nums .u64 kL, 80, 116⟩) : Con Try.prog w0 67 #[.int .i64 (t : Int), .pointer (some ⟨bp, 0, none⟩)] H (fun v H' => v = .int .u32 (kW t) ∧ H' = H) := by
  have hS0 : Sep H [] H := Sep.refl
  have hkl := kL_len
  refine Con.intro Try.func67 rfl rfl ?_
  refine AW.seq ?_
  refine AW.region ?_
  refine OpsW.q rfl (q_assign (v := .int _ _) rfl) ?_
  refine OpsW.nil ?_
  refine SeqP.go ?_
  refine AW.seq ?_
  refine AW.region ?_
  refine OpsW.q rfl (q_load (v := .pointer _) (by kernel_rfl) rfl (hS0.old hp) rfl) ?_
  refine OpsW.q rfl (q_move (v := .int _ _) rfl) ?_
  refine OpsW.q rfl (q_nilCheck rfl) ?_
  refine OpsW.q rfl (q_indexAddrA0 Try.underlying116 (by kernel_rfl) rfl rfl (by omega) (by omega)) ?_
  refine OpsW.q rfl (q_loadN (by kernel_rfl) rfl (hS0.old hc) (by omega)) ?_
  refine OpsW.q rfl (q_shrL 32 rfl rfl (by decide) rfl) ?_
  refine OpsW.q rfl (q_convInt rfl Try.underlying96 rfl) ?_
  refine OpsW.q rfl (q_assign (v := .int _ _) rfl) ?_
  refine OpsW.nil ?_
  refine SeqP.go ?_
  refine AW.ret ?_
  refine RetP.mk1 (H' := H) (v1 := .int _ _) rfl rfl  hS0.le ?_
  exact ⟨by rw [kW_def, ← w32_def]; rfl, rfl⟩
theorem turn_con {bx bp : Nat} {x n : Int} (h0 : 0 ≤ n ∧ n ≤ 32) (hx : H bx = some ⟨kCells bp, 23, 107⟩) : Con Try.prog w0 72 #[.pointer (some ⟨bx, 0, none⟩), .int .u32 x, .int .i64 n] H (fun v H' => v = .int .u32 (rt x n) ∧ H' = H) := by
  have hS0 : Sep H [] H := Sep.refl
  refine Con.intro Try.func72 rfl rfl ?_
  refine AW.seq ?_
  refine AW.region ?_
  refine OpsW.q rfl (q_assign (v := .int _ _) rfl) ?_
  refine OpsW.nil ?_
  refine SeqP.go ?_
  refine AW.seq ?_
  refine AW.drawK [] 11 rfl (by kernel_rfl) ?_
  refine SeqK.q rfl (q_move (v := .int _ _) rfl) ?_
  refine SeqK.q rfl (q_move (v := .int _ _) rfl) ?_
  refine SeqK.q rfl (q_shr rfl rfl (by omega)) ?_
  refine SeqK.q rfl (q_move (v := .int _ _) rfl) ?_
  refine SeqK.q rfl (q_move (v := .pointer _) rfl) ?_
  refine SeqK.q rfl (q_nilCheck rfl) ?_
  refine SeqK.q rfl (q_fieldAddr (sz := 0) Try.underlying107 rfl (by kernel_rfl) rfl) ?_
  refine SeqK.q rfl (q_load (v := .int _ _) (by kernel_rfl) rfl (hS0.old hx) rfl) ?_
  refine SeqK.q rfl (q_move (v := .int _ _) rfl) ?_
  refine SeqK.q rfl (q_subI rfl rfl (by omega)) ?_
  refine SeqK.q rfl (q_shl rfl rfl (by omega)) ?_
  refine SeqK.done ?_
  refine OpsW.q rfl (q_or rfl rfl) ?_
  refine OpsW.q rfl (q_assign (v := .int _ _) rfl) ?_
  refine OpsW.nil ?_
  refine SeqP.go ?_
  refine AW.ret ?_
  refine RetP.mk1 (H' := H) (v1 := .int _ _) rfl rfl  hS0.le ?_
  exact ⟨by rw [rt_def], rfl⟩
theorem block_con {bx bp : Nat} (hx : H bx = some ⟨kCells bp, 23, 107⟩) : Con Try.prog w0 64 #[.pointer (some ⟨bx, 0, none⟩)] H (fun v H' => v = .int .i64 64 ∧ H' = H) := by
  have hS0 : Sep H [] H := Sep.refl
  refine Con.intro Try.func64 rfl rfl ?_
  refine AW.seq ?_
  refine AW.region ?_
  refine OpsW.q rfl (q_assign (v := .int _ _) rfl) ?_
  refine OpsW.nil ?_
  refine SeqP.go ?_
  refine AW.seq ?_
  refine AW.region ?_
  refine OpsW.q rfl (q_move (v := .pointer _) rfl) ?_
  refine OpsW.q rfl (q_nilCheck rfl) ?_
  refine OpsW.q rfl (q_fieldAddr (sz := 0) Try.underlying107 rfl (by kernel_rfl) rfl) ?_
  refine OpsW.q rfl (q_load (v := .int _ _) (by kernel_rfl) rfl (hS0.old hx) rfl) ?_
  refine OpsW.q rfl (q_mulI rfl rfl (by omega)) ?_
  refine OpsW.q rfl (q_assign (v := .int _ _) rfl) ?_
  refine OpsW.nil ?_
  refine SeqP.go ?_
  refine AW.ret ?_
  refine RetP.mk1 (H' := H) (v1 := .int _ _) rfl rfl  hS0.le ?_
  exact ⟨rfl, rfl⟩
theorem mix_con {bx bp : Nat} {x a b c : Int} (ha : 0 ≤ a ∧ a ≤ 32) (hb : 0 ≤ b ∧ b ≤ 32) (hc : 0 ≤ c ∧ c ≤ 32) (hx : H bx = some ⟨kCells bp, 23, 107⟩) : Con Try.prog w0 71 #[.pointer (some ⟨bx, 0, none⟩), .int .u32 x, .agg (nums .i64 [a, b, c]).toArray] H (fun v H' => v = .int .u32 (mix3 x a b c) ∧ H' = H) := by
  have hS0 : Sep H [] H := Sep.refl
  refine Con.intro Try.func71 rfl rfl ?_
  refine AW.seq ?_
  refine AW.region ?_
  refine OpsW.m rfl (s_boxN (k := .i64) hS0 rfl) ?_
  rintro _ H1 ⟨b5, rfl, hS1⟩
  clear hS0
  refine OpsW.q rfl (q_assign (v := .int _ _) rfl) ?_
  refine OpsW.nil ?_
  refine SeqP.go ?_
  refine AW.seq ?_
  refine AW.drawK [] 15 rfl (by kernel_rfl) ?_
  refine SeqK.q rfl (q_move (v := .pointer _) rfl) ?_
  refine SeqK.q rfl (q_move (v := .int _ _) rfl) ?_
  refine SeqK.q rfl (q_indexAddrA0 Try.underlying103 (by kernel_rfl) rfl rfl (by omega) (by omega)) ?_
  refine SeqK.q rfl (q_loadN (by kernel_rfl) rfl (hS1.blk at0) (by simp only [nums_length, List.length_set, List.length_replicate, List.length_take, List.length_drop, List.length_append, List.length_cons, List.length_nil, ofB_length, toB_length]; omega)) ?_
  refine SeqK.q rfl (o_call rfl Try.func72 rfl rfl (turn_con (n := a) ha (hS1.old hx))) ?_
  refine SeqK.q rfl (q_move (v := .pointer _) rfl) ?_
  refine SeqK.q rfl (q_move (v := .int _ _) rfl) ?_
  refine SeqK.q rfl (q_indexAddrA0 Try.underlying103 (by kernel_rfl) rfl rfl (by omega) (by omega)) ?_
  refine SeqK.q rfl (q_loadN (by kernel_rfl) rfl (hS1.blk at0) (by simp only [nums_length, List.length_set, List.length_replicate, List.length_take, List.length_drop, List.length_append, List.length_cons, List.length_nil, ofB_length, toB_length]; omega)) ?_
  refine SeqK.q rfl (o_call rfl Try.func72 rfl rfl (turn_con (n := b) hb (hS1.old hx))) ?_
  refine SeqK.q rfl (q_xor rfl rfl) ?_
  refine SeqK.q rfl (q_move (v := .int _ _) rfl) ?_
  refine SeqK.q rfl (q_indexAddrA0 Try.underlying103 (by kernel_rfl) rfl rfl (by omega) (by omega)) ?_
  refine SeqK.q rfl (q_loadN (by kernel_rfl) rfl (hS1.blk at0) (by simp only [nums_length, List.length_set, List.length_replicate, List.length_take, List.length_drop, List.length_append, List.length_cons, List.length_nil, ofB_length, toB_length]; omega)) ?_
  refine SeqK.q rfl (q_shr (b := c) rfl rfl (by omega)) ?_
  refine SeqK.done ?_
  refine OpsW.q rfl (q_xor rfl rfl) ?_
  refine OpsW.q rfl (q_assign (v := .int _ _) rfl) ?_
  refine OpsW.nil ?_
  refine SeqP.go ?_
  refine AW.ret ?_
  refine RetP.mk1 (H' := H) (v1 := .int _ _) rfl rfl  hS1.le ?_
  exact ⟨by rw [mix3_def], rfl⟩
theorem whirl_con {bx bp : Nat} {x a b c : Int} (ha : 0 ≤ a ∧ a ≤ 32) (hb : 0 ≤ b ∧ b ≤ 32) (hc : 0 ≤ c ∧ c ≤ 32) (hx : H bx = some ⟨kCells bp, 23, 107⟩) : Con Try.prog w0 70 #[.pointer (some ⟨bx, 0, none⟩), .int .u32 x, .agg (nums .i64 [a, b, c]).toArray] H (fun v H' => v = .int .u32 (whl x a b c) ∧ H' = H) := by
  have hS0 : Sep H [] H := Sep.refl
  refine Con.intro Try.func70 rfl rfl ?_
  refine AW.seq ?_
  refine AW.region ?_
  refine OpsW.m rfl (s_boxN (k := .i64) hS0 rfl) ?_
  rintro _ H1 ⟨b5, rfl, hS1⟩
  clear hS0
  refine OpsW.q rfl (q_assign (v := .int _ _) rfl) ?_
  refine OpsW.nil ?_
  refine SeqP.go ?_
  refine AW.seq ?_
  refine AW.drawK [] 16 rfl (by kernel_rfl) ?_
  refine SeqK.q rfl (q_move (v := .pointer _) rfl) ?_
  refine SeqK.q rfl (q_move (v := .int _ _) rfl) ?_
  refine SeqK.q rfl (q_indexAddrA0 Try.underlying103 (by kernel_rfl) rfl rfl (by omega) (by omega)) ?_
  refine SeqK.q rfl (q_loadN (by kernel_rfl) rfl (hS1.blk at0) (by simp only [nums_length, List.length_set, List.length_replicate, List.length_take, List.length_drop, List.length_append, List.length_cons, List.length_nil, ofB_length, toB_length]; omega)) ?_
  refine SeqK.q rfl (o_call rfl Try.func72 rfl rfl (turn_con (n := a) ha (hS1.old hx))) ?_
  refine SeqK.q rfl (q_move (v := .pointer _) rfl) ?_
  refine SeqK.q rfl (q_move (v := .int _ _) rfl) ?_
  refine SeqK.q rfl (q_indexAddrA0 Try.underlying103 (by kernel_rfl) rfl rfl (by omega) (by omega)) ?_
  refine SeqK.q rfl (q_loadN (by kernel_rfl) rfl (hS1.blk at0) (by simp only [nums_length, List.length_set, List.length_replicate, List.length_take, List.length_drop, List.length_append, List.length_cons, List.length_nil, ofB_length, toB_length]; omega)) ?_
  refine SeqK.q rfl (o_call rfl Try.func72 rfl rfl (turn_con (n := b) hb (hS1.old hx))) ?_
  refine SeqK.q rfl (q_xor rfl rfl) ?_
  refine SeqK.q rfl (q_move (v := .pointer _) rfl) ?_
  refine SeqK.q rfl (q_move (v := .int _ _) rfl) ?_
  refine SeqK.q rfl (q_indexAddrA0 Try.underlying103 (by kernel_rfl) rfl rfl (by omega) (by omega)) ?_
  refine SeqK.q rfl (q_loadN (by kernel_rfl) rfl (hS1.blk at0) (by simp only [nums_length, List.length_set, List.length_replicate, List.length_take, List.length_drop, List.length_append, List.length_cons, List.length_nil, ofB_length, toB_length]; omega)) ?_
  refine SeqK.q rfl (o_call rfl Try.func72 rfl rfl (turn_con (n := c) hc (hS1.old hx))) ?_
  refine SeqK.done ?_
  refine OpsW.q rfl (q_xor rfl rfl) ?_
  refine OpsW.q rfl (q_assign (v := .int _ _) rfl) ?_
  refine OpsW.nil ?_
  refine SeqP.go ?_
  refine AW.ret ?_
  refine RetP.mk1 (H' := H) (v1 := .int _ _) rfl rfl  hS1.le ?_
  exact ⟨by rw [whl_def], rfl⟩
theorem words_con {bx bp : Nat} {s : List UInt8} (hs : s.length = 64) (hx : H bx = some ⟨kCells bp, 23, 107⟩) : Con Try.prog w0 69 #[.pointer (some ⟨bx, 0, none⟩), S s] H (fun v H' => Sep H [.vec v 96 1 64 (nums .u32 (wsK s 64))] H') := by
  have hS0 : Sep H [] H := Sep.refl
  refine Con.intro Try.func69 rfl rfl ?_
  refine AW.seq ?_
  refine AW.region ?_
  refine OpsW.q rfl (q_assign (v := .slice _ _ _) rfl) ?_
  refine OpsW.nil ?_
  refine SeqP.go ?_
  refine AW.seq ?_
  refine AW.region ?_
  refine OpsW.q rfl (q_move (v := .pointer _) rfl) ?_
  refine OpsW.q rfl (q_nilCheck rfl) ?_
  refine OpsW.q rfl (q_fieldAddr (sz := 0) Try.underlying107 rfl (by kernel_rfl) rfl) ?_
  refine OpsW.q rfl (q_load (v := .int _ _) (by kernel_rfl) rfl (hS0.old hx) rfl) ?_
  refine OpsW.m rfl (s_makeSliceN (kk := .u32) (by_ := 4) hS0 Try.underlying95 (by kernel_rfl) (by kernel_rfl) (by kernel_rfl) rfl rfl (by omega) (by omega) (by omega) (by omega) (by unfold maxLen; omega)) ?_
  rintro v13 H1 hS1
  clear hS0
  refine OpsW.q rfl (q_assign (v := v13) rfl) ?_
  refine OpsW.nil ?_
  refine SeqP.go ?_
  refine AW.seq ?_
  refine AW.region ?_
  refine OpsW.q rfl (q_move (v := .pointer _) rfl) ?_
  refine OpsW.q rfl (q_nilCheck rfl) ?_
  refine OpsW.q rfl (q_fieldAddr (sz := 0) Try.underlying107 rfl (by kernel_rfl) rfl) ?_
  refine OpsW.q rfl (q_load (v := .int _ _) (by kernel_rfl) rfl (hS1.old hx) rfl) ?_
  refine OpsW.q rfl (q_quoI rfl rfl (by omega)) ?_
  refine OpsW.q rfl (q_assign (v := .int _ _) rfl) ?_
  refine OpsW.nil ?_
  refine SeqP.go ?_
  refine AW.seq ?_
  refine AW.seq ?_
  refine AW.region ?_
  refine OpsW.q rfl (q_move (v := v13) rfl) ?_
  refine OpsW.q rfl (q_lenVec Try.underlying95 rfl (hS1.vec at0)) ?_
  refine OpsW.q rfl (q_move (v := .int _ _) rfl) ?_
  refine OpsW.nil ?_
  refine SeqP.go ?_
  refine AW.block ?_
  refine AW.loop (fun m_ e_ H_ => ∃ (t : Nat) (vw : Value) (e0 : Env), m_ = 64 - t ∧ (t ≤ 64) ∧ e_ = upds e0 [(0, .pointer (some ⟨bx, 0, none⟩)), (1, S s), (5, vw), (6, .int .i64 4), (20, .int .i64 64), (21, .int .i64 (t : Int))] ∧ Sep H [.vec vw 96 1 64 (nums .u32 (wsK s t ++ List.replicate (64 - t) 0))] H_) _ ⟨0, v13, _, rfl, (by omega), Slots.eq ⟨(by rfl), (by rfl), (by rfl), (by rfl), (by rfl), (by rfl),  trivial⟩, (by rw [wsK_zero']; exact hS1)⟩ ?_
  rintro m_ _ Hl0 ⟨t, vw, e0, rfl, hf, rfl, hSl0⟩
  try clear hS1
  have hwl := wsK_length s t
  refine AW.seq ?_
  refine AW.region ?_
  refine OpsW.q rfl (q_lss rfl rfl) ?_
  refine OpsW.nil ?_
  refine SeqP.go ?_
  refine AW.seq ?_
  refine AW.cond2 rfl (fun h0 => ?_) (fun h0 => ?_)
  ·
    try simp only [decide_eq_true_eq, decide_eq_false_iff_not, Bool.or_eq_true, Bool.and_eq_true, Bool.or_eq_false_iff, Bool.and_eq_false_imp, Bool.not_eq_true', Bool.not_eq_false', ne_eq, Decidable.not_not, Int.not_lt, Int.not_le, Bool.not_eq_true, Bool.not_eq_false] at h0
    refine AW.exit ?_
    refine SeqP.exit ?_
    refine LoopP.exit ?_
    obtain rfl : t = 64 := by omega
    refine BlockP.here ?_
    refine SeqP.go ?_
    refine AW.seq ?_
    refine AW.region ?_
    refine OpsW.q rfl (q_move (v := vw) rfl) ?_
    refine OpsW.q rfl (q_assign (v := vw) rfl) ?_
    refine OpsW.nil ?_
    refine SeqP.go ?_
    refine AW.ret ?_
    refine RetP.mk1 (H' := Hl0) (v1 := vw) rfl rfl  (Hp.le_refl _) ?_
    have hs9 := hSl0
    rw [show 64 - 64 = 0 from rfl, List.replicate_zero, List.append_nil] at hs9
    exact hs9
  try simp only [decide_eq_true_eq, decide_eq_false_iff_not, Bool.or_eq_true, Bool.and_eq_true, Bool.or_eq_false_iff, Bool.and_eq_false_imp, Bool.not_eq_true', Bool.not_eq_false', ne_eq, Decidable.not_not, Int.not_lt, Int.not_le, Bool.not_eq_true, Bool.not_eq_false] at h0
  refine AW.skip ?_
  refine SeqP.go ?_
  refine AW.seq ?_
  refine AW.block ?_
  refine AW.seq ?_
  refine AW.region ?_
  refine OpsW.q rfl (q_move (v := .int _ _) rfl) ?_
  refine OpsW.q rfl (q_assign (v := .int _ _) rfl) ?_
  refine OpsW.nil ?_
  refine SeqP.go ?_
  refine AW.seq ?_
  refine AW.seq ?_
  refine AW.region ?_
  refine OpsW.q rfl (q_move (v := .int _ _) rfl) ?_
  refine OpsW.q rfl (q_lss rfl rfl) ?_
  refine OpsW.nil ?_
  refine SeqP.go ?_
  refine AW.cond rfl (fun h1 => ?_) (fun h1 => ?_)
  ·
    try simp only [decide_eq_true_eq, decide_eq_false_iff_not, Bool.or_eq_true, Bool.and_eq_true, Bool.or_eq_false_iff, Bool.and_eq_false_imp, Bool.not_eq_true', Bool.not_eq_false', ne_eq, Decidable.not_not, Int.not_lt, Int.not_le, Bool.not_eq_true, Bool.not_eq_false] at h1
    refine AW.seq ?_
    refine AW.seq ?_
    refine AW.region ?_
    refine OpsW.q rfl (q_move (v := .int _ _) rfl) ?_
    refine OpsW.q rfl (q_move (v := .int _ _) rfl) ?_
    refine OpsW.nil ?_
    refine SeqP.go ?_
    refine AW.block ?_
    refine AW.loop (fun m_ e_ H_ => ∃ (i : Nat) (e0 : Env), m_ = 4 - i ∧ (i ≤ 4) ∧ e_ = upds e0 [(0, .pointer (some ⟨bx, 0, none⟩)), (1, S s), (5, vw), (6, .int .i64 4), (7, .int .i64 (t : Int)), (20, .int .i64 64), (21, .int .i64 (t : Int)), (26, .int .i64 4), (27, .int .i64 (i : Int))] ∧ Sep H [.vec vw 96 1 64 (nums .u32 (wsK s t ++ wpK s (4 * t) i :: List.replicate (64 - (t + 1)) 0))] H_) _ ⟨0, _, rfl, (by omega), Slots.eq ⟨(by rfl), (by rfl), (by rfl), (by rfl), (by rfl), (by rfl), (by rfl), (by rfl), (by rfl),  trivial⟩, (by rw [wpK_zero', ← rep_cons (by omega)]; exact hSl0)⟩ ?_
    rintro m_ _ Hl1 ⟨i, e0, rfl, hf, rfl, hSl1⟩
    try clear hSl0
    have hil : (wsK s t ++ wpK s (4 * t) i :: List.replicate (64 - (t + 1)) 0).length = 64 := by rw [List.length_append, List.length_cons, List.length_replicate, hwl]; omega
    refine AW.seq ?_
    refine AW.region ?_
    refine OpsW.q rfl (q_lss rfl rfl) ?_
    refine OpsW.nil ?_
    refine SeqP.go ?_
    refine AW.seq ?_
    refine AW.cond2 rfl (fun h2 => ?_) (fun h2 => ?_)
    ·
      try simp only [decide_eq_true_eq, decide_eq_false_iff_not, Bool.or_eq_true, Bool.and_eq_true, Bool.or_eq_false_iff, Bool.and_eq_false_imp, Bool.not_eq_true', Bool.not_eq_false', ne_eq, Decidable.not_not, Int.not_lt, Int.not_le, Bool.not_eq_true, Bool.not_eq_false] at h2
      refine AW.exit ?_
      refine SeqP.exit ?_
      refine LoopP.exit ?_
      obtain rfl : i = 4 := by omega
      rw [wpK_four] at hSl1
      refine BlockP.here ?_
      refine SeqP.go ?_
      refine AW.exit ?_
      refine SeqP.exit ?_
      refine BlockP.here ?_
      refine SeqP.go ?_
      refine AW.region ?_
      refine OpsW.q rfl (q_addI rfl rfl (by omega)) ?_
      refine OpsW.q rfl (q_move (v := .int _ _) rfl) ?_
      refine OpsW.nil ?_
      exact LoopP.go _ (by omega) ⟨t + 1, vw, _, rfl, (by omega), Slots.eq ⟨(by rfl), (by rfl), (by rfl), (by rfl), (by rfl), (by rfl),  trivial⟩, (by rw [wsK_lo s (by omega), List.append_assoc]; exact hSl1)⟩
    try simp only [decide_eq_true_eq, decide_eq_false_iff_not, Bool.or_eq_true, Bool.and_eq_true, Bool.or_eq_false_iff, Bool.and_eq_false_imp, Bool.not_eq_true', Bool.not_eq_false', ne_eq, Decidable.not_not, Int.not_lt, Int.not_le, Bool.not_eq_true, Bool.not_eq_false] at h2
    refine AW.skip ?_
    refine SeqP.go ?_
    refine AW.seq ?_
    refine AW.block ?_
    refine AW.seq ?_
    refine AW.region ?_
    refine OpsW.q rfl (q_move (v := .int _ _) rfl) ?_
    refine OpsW.q rfl (q_assign (v := .int _ _) rfl) ?_
    refine OpsW.nil ?_
    refine SeqP.go ?_
    refine AW.drawK [] 16 rfl (by kernel_rfl) ?_
    refine SeqK.q rfl (q_move (v := vw) rfl) ?_
    refine SeqK.q rfl (q_move (v := .int _ _) rfl) ?_
    refine SeqK.q rfl (q_move (v := vw) rfl) ?_
    refine SeqK.q rfl (q_move (v := .int _ _) rfl) ?_
    refine SeqK.q rfl (q_indexV1 (hSl1.vec at0) Try.underlying95 (by kernel_rfl) rfl rfl (by omega) (by omega)) ?_
    refine SeqK.q rfl (q_loadVN (hSl1.vec at0) (by kernel_rfl) rfl (by omega)) ?_
    refine SeqK.q rfl (q_shlL 8 rfl rfl (by decide) rfl) ?_
    refine SeqK.q rfl (q_move (v := S _) rfl) ?_
    refine SeqK.q rfl (q_move (v := .int _ _) rfl) ?_
    refine SeqK.q rfl (q_move (v := .int _ _) rfl) ?_
    refine SeqK.q rfl (q_mulI rfl rfl (by omega)) ?_
    refine SeqK.q rfl (q_move (v := .int _ _) rfl) ?_
    refine SeqK.q rfl (q_addI rfl rfl (by omega)) ?_
    refine SeqK.q rfl (q_indexS Try.underlying9 rfl rfl (by omega) (by omega)) ?_
    refine SeqK.q rfl (q_convInt rfl Try.underlying96 rfl) ?_
    refine SeqK.q rfl (q_or rfl rfl) ?_
    rw [Int.toNat_natCast, mid_get (wsK_length s t), show (4 * (t : Int) + (i : Int)).toNat = 4 * t + i from by omega, wp_step s (4 * t) (by omega)]
    refine SeqK.done ?_
    refine OpsW.q rfl (q_indexV1 (hSl1.vec at0) Try.underlying95 (by kernel_rfl) rfl rfl (by omega) (by omega)) ?_
    refine OpsW.ms (s_storeVN hSl1 at0 (by kernel_rfl) rfl rfl (by omega)) ?_
    rintro _ H2 ⟨rfl, hS2⟩
    clear hSl1
    refine OpsW.nil ?_
    refine BlockP.go ?_
    refine SeqP.go ?_
    refine AW.region ?_
    refine OpsW.q rfl (q_addI rfl rfl (by omega)) ?_
    refine OpsW.q rfl (q_move (v := .int _ _) rfl) ?_
    refine OpsW.nil ?_
    exact LoopP.go _ (by omega) ⟨i + 1, _, rfl, (by omega), Slots.eq ⟨(by rfl), (by rfl), (by rfl), (by rfl), (by rfl), (by rfl), (by rfl), (by rfl), (by rfl),  trivial⟩, (by have hs9 := hS2; rw [Int.toNat_natCast, mid_set hwl] at hs9; exact hs9)⟩
  try simp only [decide_eq_true_eq, decide_eq_false_iff_not, Bool.or_eq_true, Bool.and_eq_true, Bool.or_eq_false_iff, Bool.and_eq_false_imp, Bool.not_eq_true', Bool.not_eq_false', ne_eq, Decidable.not_not, Int.not_lt, Int.not_le, Bool.not_eq_true, Bool.not_eq_false] at h1
  have hrl : (wsK s t ++ List.replicate (64 - t) 0).length = 64 := by rw [List.length_append, List.length_replicate, hwl]; omega
  have hg16 : (wsK s t ++ List.replicate (64 - t) 0).getD ((t : Int) - 16).toNat 0 = (wsK s t).getD (t - 16) 0 := by rw [show ((t : Int) - 16).toNat = t - 16 from by omega, lo_get (by omega)]
  have hg7 : (wsK s t ++ List.replicate (64 - t) 0).getD ((t : Int) - 7).toNat 0 = (wsK s t).getD (t - 7) 0 := by rw [show ((t : Int) - 7).toNat = t - 7 from by omega, lo_get (by omega)]
  have hg15 : (wsK s t ++ List.replicate (64 - t) 0).getD ((t : Int) - 15).toNat 0 = (wsK s t).getD (t - 15) 0 := by rw [show ((t : Int) - 15).toNat = t - 15 from by omega, lo_get (by omega)]
  have hg2 : (wsK s t ++ List.replicate (64 - t) 0).getD ((t : Int) - 2).toNat 0 = (wsK s t).getD (t - 2) 0 := by rw [show ((t : Int) - 2).toNat = t - 2 from by omega, lo_get (by omega)]
  have hnx : IntKind.u32.wrap (IntKind.u32.wrap (IntKind.u32.wrap ((wsK s t).getD (t - 16) 0 + (wsK s t).getD (t - 7) 0) + mix3 ((wsK s t).getD (t - 15) 0) 7 18 3) + mix3 ((wsK s t).getD (t - 2) 0) 17 19 10) = nextW (wsK s t) t := by rw [nextW_def]; simp only [w32_def]
  refine AW.skip ?_
  refine SeqP.go ?_
  refine AW.drawK [] 37 rfl (by kernel_rfl) ?_
  refine SeqK.q rfl (q_move (v := vw) rfl) ?_
  refine SeqK.q rfl (q_move (v := .int _ _) rfl) ?_
  refine SeqK.q rfl (q_move (v := vw) rfl) ?_
  refine SeqK.q rfl (q_move (v := .int _ _) rfl) ?_
  refine SeqK.q rfl (q_subI rfl rfl (by omega)) ?_
  refine SeqK.q rfl (q_indexV1 (hSl0.vec at0) Try.underlying95 (by kernel_rfl) rfl rfl (by omega) (by omega)) ?_
  refine SeqK.q rfl (q_loadVN (hSl0.vec at0) (by kernel_rfl) rfl (by omega)) ?_
  rw [hg16]
  refine SeqK.q rfl (q_move (v := vw) rfl) ?_
  refine SeqK.q rfl (q_move (v := .int _ _) rfl) ?_
  refine SeqK.q rfl (q_subI rfl rfl (by omega)) ?_
  refine SeqK.q rfl (q_indexV1 (hSl0.vec at0) Try.underlying95 (by kernel_rfl) rfl rfl (by omega) (by omega)) ?_
  refine SeqK.q rfl (q_loadVN (hSl0.vec at0) (by kernel_rfl) rfl (by omega)) ?_
  rw [hg7]
  refine SeqK.q rfl (q_add rfl rfl) ?_
  refine SeqK.q rfl (q_move (v := .pointer _) rfl) ?_
  refine SeqK.q rfl (q_move (v := vw) rfl) ?_
  refine SeqK.q rfl (q_move (v := .int _ _) rfl) ?_
  refine SeqK.q rfl (q_subI rfl rfl (by omega)) ?_
  refine SeqK.q rfl (q_indexV1 (hSl0.vec at0) Try.underlying95 (by kernel_rfl) rfl rfl (by omega) (by omega)) ?_
  refine SeqK.q rfl (q_loadVN (hSl0.vec at0) (by kernel_rfl) rfl (by omega)) ?_
  rw [hg15]
  refine SeqK.q rfl (q_move (v := .pointer _) rfl) ?_
  refine SeqK.q rfl (q_nilCheck rfl) ?_
  refine SeqK.q rfl (q_fieldAddr (sz := 2) Try.underlying107 rfl (by kernel_rfl) rfl) ?_
  refine SeqK.q rfl (q_loadA (n := 3) (cs := nums .i64 [7, 18, 3]) (by kernel_rfl) rfl (hSl0.old hx) rfl (part_of (j := 2) rfl)) ?_
  refine SeqK.q rfl (o_call rfl Try.func71 rfl rfl (mix_con (a := 7) (b := 18) (c := 3) (by decide) (by decide) (by decide) (hSl0.old hx))) ?_
  refine SeqK.q rfl (q_add rfl rfl) ?_
  refine SeqK.q rfl (q_move (v := .pointer _) rfl) ?_
  refine SeqK.q rfl (q_move (v := vw) rfl) ?_
  refine SeqK.q rfl (q_move (v := .int _ _) rfl) ?_
  refine SeqK.q rfl (q_subI rfl rfl (by omega)) ?_
  refine SeqK.q rfl (q_indexV1 (hSl0.vec at0) Try.underlying95 (by kernel_rfl) rfl rfl (by omega) (by omega)) ?_
  refine SeqK.q rfl (q_loadVN (hSl0.vec at0) (by kernel_rfl) rfl (by omega)) ?_
  rw [hg2]
  refine SeqK.q rfl (q_move (v := .pointer _) rfl) ?_
  refine SeqK.q rfl (q_nilCheck rfl) ?_
  refine SeqK.q rfl (q_fieldAddr (sz := 2) Try.underlying107 rfl (by kernel_rfl) rfl) ?_
  refine SeqK.q rfl (q_loadA (n := 3) (cs := nums .i64 [17, 19, 10]) (by kernel_rfl) rfl (hSl0.old hx) rfl (part_of (j := 5) rfl)) ?_
  refine SeqK.q rfl (o_call rfl Try.func71 rfl rfl (mix_con (a := 17) (b := 19) (c := 10) (by decide) (by decide) (by decide) (hSl0.old hx))) ?_
  refine SeqK.q rfl (q_add rfl rfl) ?_
  rw [hnx]
  refine SeqK.done ?_
  refine OpsW.q rfl (q_indexV1 (hSl0.vec at0) Try.underlying95 (by kernel_rfl) rfl rfl (by omega) (by omega)) ?_
  refine OpsW.ms (s_storeVN hSl0 at0 (by kernel_rfl) rfl rfl (by omega)) ?_
  rintro _ H3 ⟨rfl, hS3⟩
  clear hSl0
  refine OpsW.nil ?_
  refine BlockP.go ?_
  refine SeqP.go ?_
  refine AW.region ?_
  refine OpsW.q rfl (q_addI rfl rfl (by omega)) ?_
  refine OpsW.q rfl (q_move (v := .int _ _) rfl) ?_
  refine OpsW.nil ?_
  exact LoopP.go _ (by omega) ⟨t + 1, vw, _, rfl, (by omega), Slots.eq ⟨(by rfl), (by rfl), (by rfl), (by rfl), (by rfl), (by rfl),  trivial⟩, (by have hs9 := hS3; rw [Int.toNat_natCast, rep_cons (by omega), mid_set hwl] at hs9; rw [wsK_hi s (by omega), List.append_assoc]; exact hs9)⟩
theorem press_con {bx bp bc : Nat} {h : List Int} {s : List UInt8} (hh : h.length = 8) (hs : s.length = 64) (hx : H bx = some ⟨kCells bp, 23, 107⟩) (hp : H bp = some ⟨[.pointer (some ⟨bc, 0, none⟩)], 1, 110⟩) (hc : H bc = some ⟨nums .u64 kL, 80, 116⟩) : Con Try.prog w0 65 #[.pointer (some ⟨bx, 0, none⟩), .agg (nums .u32 h).toArray, S s] H (fun v H' => v = .agg (nums .u32 (pressW h s)).toArray ∧ H' = H) := by
  have hS0 : Sep H [] H := Sep.refl
  have hwl := wsK_length s 64
  refine Con.intro Try.func65 rfl rfl ?_
  refine AW.seq ?_
  refine AW.region ?_
  refine OpsW.m rfl (s_boxN (k := .u32) hS0 rfl) ?_
  rintro _ H1 ⟨b4, rfl, hS1⟩
  clear hS0
  refine OpsW.m rfl (s_allocN (k := .u32) (m := 8) hS1 (by kernel_rfl)) ?_
  rintro _ H2 ⟨b6, rfl, hS2⟩
  clear hS1
  refine OpsW.nil ?_
  refine SeqP.go ?_
  refine AW.seq ?_
  refine AW.region ?_
  refine OpsW.q rfl (q_loadAN (n := 8) (k := .u32) (by kernel_rfl) rfl (hS2.blk at1) (by with_reducible assumption)) ?_
  refine OpsW.m rfl (s_allocN (k := .u32) (m := 8) hS2 (by kernel_rfl)) ?_
  rintro _ H3 ⟨b7, rfl, hS3⟩
  clear hS2
  refine OpsW.ms (s_storeA (n := 8) (k := .u32) hS3 at0 (by kernel_rfl) rfl rfl (by with_reducible assumption) (by rfl)) ?_
  rintro _ H4 ⟨rfl, hS4⟩
  clear hS3
  refine OpsW.nil ?_
  refine SeqP.go ?_
  refine AW.seq ?_
  refine AW.seq ?_
  refine AW.region ?_
  refine OpsW.q rfl (q_move (v := .pointer _) rfl) ?_
  refine OpsW.q rfl (q_move (v := S _) rfl) ?_
  refine OpsW.m rfl (o_call rfl Try.func69 rfl rfl (words_con hs (hS4.old hx))) ?_
  rintro v18 H5 hR5
  have hS5 := hS4.join hR5
  simp only [List.cons_append, List.nil_append] at hS5
  clear hR5 hS4
  refine OpsW.q rfl (q_lenVec Try.underlying95 rfl (hS5.vec at0)) ?_
  refine OpsW.q rfl (q_move (v := .int _ _) rfl) ?_
  refine OpsW.nil ?_
  refine SeqP.go ?_
  refine AW.block ?_
  refine AW.loop (fun m_ e_ H_ => ∃ (t : Nat) (e0 : Env), m_ = 64 - t ∧ (t ≤ 64) ∧ e_ = upds e0 [(0, .pointer (some ⟨bx, 0, none⟩)), (4, .pointer (some ⟨b4, 0, none⟩)), (6, .pointer (some ⟨b6, 0, none⟩)), (7, .pointer (some ⟨b7, 0, none⟩)), (18, v18), (19, .int .i64 64), (20, .int .i64 (t : Int))] ∧ Sep H [.vec v18 96 1 64 (nums .u32 (wsK s 64)), .blk b7 ⟨nums .u32 ((prK h s t)), 8, 105⟩, .blk b6 ⟨nums .u32 ([0, 0, 0, 0, 0, 0, 0, 0]), 8, 105⟩, .blk b4 ⟨nums .u32 h, h.length, 105⟩] H_) _ ⟨0, _, rfl, (by omega), Slots.eq ⟨(by rfl), (by rfl), (by rfl), (by rfl), (by rfl), (by rfl), (by rfl),  trivial⟩, (by rw [prK_zero']; exact hS5)⟩ ?_
  rintro m_ _ Hl0 ⟨t, e0, rfl, hf, rfl, hSl0⟩
  try clear hS5
  have hpl := prK_length hh s t
  have huw : IntKind.u32.wrap (IntKind.u32.wrap (IntKind.u32.wrap (IntKind.u32.wrap ((prK h s t).getD (Int.toNat 7) 0 + whl ((prK h s t).getD (Int.toNat 4) 0) 6 11 25) + ixor .u32 (iand .u32 ((prK h s t).getD (Int.toNat 4) 0) ((prK h s t).getD (Int.toNat 5) 0)) (iand .u32 (ixor .u32 IntKind.u32.max ((prK h s t).getD (Int.toNat 4) 0)) ((prK h s t).getD (Int.toNat 6) 0))) + kW t) + (wsK s 64).getD (t : Int).toNat 0) = uW (prK h s t) (kW t) ((wsK s 64).getD t 0) := by rw [uW_def, chW_def, notW_def]; simp only [w32_def]; rfl
  have how : IntKind.u32.wrap (whl ((prK h s t).getD (Int.toNat 0) 0) 2 13 22 + ixor .u32 (ixor .u32 (iand .u32 ((prK h s t).getD (Int.toNat 0) 0) ((prK h s t).getD (Int.toNat 1) 0)) (iand .u32 ((prK h s t).getD (Int.toNat 0) 0) ((prK h s t).getD (Int.toNat 2) 0))) (iand .u32 ((prK h s t).getD (Int.toNat 1) 0) ((prK h s t).getD (Int.toNat 2) 0))) = oW (prK h s t) := by rw [oW_def, majW_def]; simp only [w32_def]; rfl
  refine AW.seq ?_
  refine AW.region ?_
  refine OpsW.q rfl (q_lss rfl rfl) ?_
  refine OpsW.nil ?_
  refine SeqP.go ?_
  refine AW.seq ?_
  refine AW.cond2 rfl (fun h0 => ?_) (fun h0 => ?_)
  ·
    try simp only [decide_eq_true_eq, decide_eq_false_iff_not, Bool.or_eq_true, Bool.and_eq_true, Bool.or_eq_false_iff, Bool.and_eq_false_imp, Bool.not_eq_true', Bool.not_eq_false', ne_eq, Decidable.not_not, Int.not_lt, Int.not_le, Bool.not_eq_true, Bool.not_eq_false] at h0
    refine AW.exit ?_
    refine SeqP.exit ?_
    refine LoopP.exit ?_
    obtain rfl : t = 64 := by omega
    refine BlockP.here ?_
    refine SeqP.go ?_
    refine AW.seq ?_
    refine AW.seq ?_
    refine AW.region ?_
    refine OpsW.q rfl (q_move (v := .int _ _) rfl) ?_
    refine OpsW.nil ?_
    refine SeqP.go ?_
    refine AW.block ?_
    replace hSl0 := hSl0.del del0
    refine AW.loop (fun m_ e_ H_ => ∃ (i : Nat) (e0 : Env), m_ = 8 - i ∧ (i ≤ 8) ∧ e_ = upds e0 [(4, .pointer (some ⟨b4, 0, none⟩)), (6, .pointer (some ⟨b6, 0, none⟩)), (7, .pointer (some ⟨b7, 0, none⟩)), (103, .int .i64 (i : Int))] ∧ Sep H [.blk b7 ⟨nums .u32 ((prK h s 64)), 8, 105⟩, .blk b6 ⟨nums .u32 ([0, 0, 0, 0, 0, 0, 0, 0]), 8, 105⟩, .blk b4 ⟨nums .u32 ((addW h (prK h s 64) i)), h.length, 105⟩] H_) _ ⟨0, _, rfl, (by omega), Slots.eq ⟨(by rfl), (by rfl), (by rfl), (by rfl),  trivial⟩, (by rw [addW_zero']; exact hSl0)⟩ ?_
    rintro m_ _ Hl1 ⟨i, e0, rfl, hf, rfl, hSl1⟩
    try clear hSl0
    have hal := addW_length h (prK h s 64) i
    have hpl := prK_length hh s 64
    refine AW.seq ?_
    refine AW.region ?_
    refine OpsW.q rfl (q_lss rfl rfl) ?_
    refine OpsW.nil ?_
    refine SeqP.go ?_
    refine AW.seq ?_
    refine AW.cond2 rfl (fun h1 => ?_) (fun h1 => ?_)
    ·
      try simp only [decide_eq_true_eq, decide_eq_false_iff_not, Bool.or_eq_true, Bool.and_eq_true, Bool.or_eq_false_iff, Bool.and_eq_false_imp, Bool.not_eq_true', Bool.not_eq_false', ne_eq, Decidable.not_not, Int.not_lt, Int.not_le, Bool.not_eq_true, Bool.not_eq_false] at h1
      refine AW.exit ?_
      refine SeqP.exit ?_
      refine LoopP.exit ?_
      obtain rfl : i = 8 := by omega
      refine BlockP.here ?_
      refine SeqP.go ?_
      refine AW.seq ?_
      refine AW.region ?_
      refine OpsW.q rfl (q_loadAN (n := 8) (k := .u32) (by kernel_rfl) rfl (hSl1.blk at2) (by omega)) ?_
      refine OpsW.ms (s_storeA (n := 8) (k := .u32) hSl1 at1 (by kernel_rfl) rfl rfl (by omega) (by rfl)) ?_
      rintro _ H6 ⟨rfl, hS6⟩
      clear hSl1
      refine OpsW.nil ?_
      refine SeqP.go ?_
      refine AW.ret ?_
      refine RetP.mkc (m := 8) (H' := H) rfl rfl (hS6.blk at1) (by simp only [nums_length, List.length_set, List.length_replicate, List.length_take, List.length_drop, List.length_append, List.length_cons, List.length_nil, ofB_length, toB_length]; omega) (by kernel_rfl) hS6.le ?_
      exact ⟨by rw [pressW_def], rfl⟩
    try simp only [decide_eq_true_eq, decide_eq_false_iff_not, Bool.or_eq_true, Bool.and_eq_true, Bool.or_eq_false_iff, Bool.and_eq_false_imp, Bool.not_eq_true', Bool.not_eq_false', ne_eq, Decidable.not_not, Int.not_lt, Int.not_le, Bool.not_eq_true, Bool.not_eq_false] at h1
    refine AW.skip ?_
    refine SeqP.go ?_
    refine AW.seq ?_
    refine AW.block ?_
    refine AW.seq ?_
    refine AW.region ?_
    refine OpsW.q rfl (q_move (v := .int _ _) rfl) ?_
    refine OpsW.q rfl (q_assign (v := .int _ _) rfl) ?_
    refine OpsW.nil ?_
    refine SeqP.go ?_
    refine AW.drawK [] 6 rfl (by kernel_rfl) ?_
    refine SeqK.q rfl (q_move (v := .int _ _) rfl) ?_
    refine SeqK.q rfl (q_indexAddrA0 Try.underlying105 (by kernel_rfl) rfl rfl (by omega) (by omega)) ?_
    refine SeqK.q rfl (q_loadN (by kernel_rfl) rfl (hSl1.blk at2) (by omega)) ?_
    refine SeqK.q rfl (q_move (v := .int _ _) rfl) ?_
    refine SeqK.q rfl (q_indexAddrA0 Try.underlying105 (by kernel_rfl) rfl rfl (by omega) (by omega)) ?_
    refine SeqK.q rfl (q_loadN (by kernel_rfl) rfl (hSl1.blk at0) (by omega)) ?_
    refine SeqK.done ?_
    refine OpsW.q rfl (q_add rfl rfl) ?_
    refine OpsW.q rfl (q_indexAddrA0 Try.underlying105 (by kernel_rfl) rfl rfl (by omega) (by omega)) ?_
    refine OpsW.ms (s_storeN hSl1 at2 (by kernel_rfl) rfl rfl (by omega)) ?_
    rintro _ H7 ⟨rfl, hS7⟩
    clear hSl1
    refine OpsW.nil ?_
    refine BlockP.go ?_
    refine SeqP.go ?_
    refine AW.region ?_
    refine OpsW.q rfl (q_addI rfl rfl (by omega)) ?_
    refine OpsW.q rfl (q_move (v := .int _ _) rfl) ?_
    refine OpsW.nil ?_
    exact LoopP.go _ (by omega) ⟨i + 1, _, rfl, (by omega), Slots.eq ⟨(by rfl), (by rfl), (by rfl), (by rfl),  trivial⟩, (by have hs9 := hS7; rw [Int.toNat_natCast, w32_def, ← addW_succ] at hs9; exact hs9)⟩
  try simp only [decide_eq_true_eq, decide_eq_false_iff_not, Bool.or_eq_true, Bool.and_eq_true, Bool.or_eq_false_iff, Bool.and_eq_false_imp, Bool.not_eq_true', Bool.not_eq_false', ne_eq, Decidable.not_not, Int.not_lt, Int.not_le, Bool.not_eq_true, Bool.not_eq_false] at h0
  refine AW.skip ?_
  refine SeqP.go ?_
  refine AW.seq ?_
  refine AW.block ?_
  refine AW.seq ?_
  refine AW.region ?_
  refine OpsW.q rfl (q_move (v := .int _ _) rfl) ?_
  refine OpsW.q rfl (q_indexV1 (hSl0.vec at0) Try.underlying95 (by kernel_rfl) rfl rfl (by omega) (by omega)) ?_
  refine OpsW.q rfl (q_loadVN (hSl0.vec at0) (by kernel_rfl) rfl (by omega)) ?_
  refine OpsW.q rfl (q_assign (v := .int _ _) rfl) ?_
  refine OpsW.q rfl (q_assign (v := .int _ _) rfl) ?_
  refine OpsW.nil ?_
  refine SeqP.go ?_
  refine AW.seq ?_
  refine AW.drawK [] 5 rfl (by kernel_rfl) ?_
  refine SeqK.q rfl (q_indexAddrA0 Try.underlying105 (by kernel_rfl) rfl rfl (by omega) (by omega)) ?_
  refine SeqK.q rfl (q_loadN (by kernel_rfl) rfl (hSl0.blk at1) (by omega)) ?_
  refine SeqK.q rfl (q_indexAddrA0 Try.underlying105 (by kernel_rfl) rfl rfl (by omega) (by omega)) ?_
  refine SeqK.q rfl (q_loadN (by kernel_rfl) rfl (hSl0.blk at1) (by omega)) ?_
  refine SeqK.q rfl (q_assign (v := .int _ _) rfl) ?_
  refine SeqK.done ?_
  refine OpsW.q rfl (q_assign (v := .int _ _) rfl) ?_
  refine OpsW.nil ?_
  refine SeqP.go ?_
  refine AW.seq ?_
  refine AW.drawK [] 29 rfl (by kernel_rfl) ?_
  refine SeqK.q rfl (q_indexAddrA0 Try.underlying105 (by kernel_rfl) rfl rfl (by omega) (by omega)) ?_
  refine SeqK.q rfl (q_loadN (by kernel_rfl) rfl (hSl0.blk at1) (by omega)) ?_
  refine SeqK.q rfl (q_move (v := .pointer _) rfl) ?_
  refine SeqK.q rfl (q_move (v := .int _ _) rfl) ?_
  refine SeqK.q rfl (q_move (v := .pointer _) rfl) ?_
  refine SeqK.q rfl (q_nilCheck rfl) ?_
  refine SeqK.q rfl (q_fieldAddr (sz := 2) Try.underlying107 rfl (by kernel_rfl) rfl) ?_
  refine SeqK.q rfl (q_loadA (n := 3) (cs := nums .i64 [6, 11, 25]) (by kernel_rfl) rfl (hSl0.old hx) rfl (part_of (j := 8) rfl)) ?_
  refine SeqK.q rfl (o_call rfl Try.func70 rfl rfl (whirl_con (a := 6) (b := 11) (c := 25) (by decide) (by decide) (by decide) (hSl0.old hx))) ?_
  refine SeqK.q rfl (q_add rfl rfl) ?_
  refine SeqK.q rfl (q_move (v := .int _ _) rfl) ?_
  refine SeqK.q rfl (q_indexAddrA0 Try.underlying105 (by kernel_rfl) rfl rfl (by omega) (by omega)) ?_
  refine SeqK.q rfl (q_loadN (by kernel_rfl) rfl (hSl0.blk at1) (by omega)) ?_
  refine SeqK.q rfl (q_and rfl rfl) ?_
  refine SeqK.q rfl (q_move (v := .int _ _) rfl) ?_
  refine SeqK.q rfl (q_compl rfl rfl) ?_
  refine SeqK.q rfl (q_indexAddrA0 Try.underlying105 (by kernel_rfl) rfl rfl (by omega) (by omega)) ?_
  refine SeqK.q rfl (q_loadN (by kernel_rfl) rfl (hSl0.blk at1) (by omega)) ?_
  refine SeqK.q rfl (q_and rfl rfl) ?_
  refine SeqK.q rfl (q_xor rfl rfl) ?_
  refine SeqK.q rfl (q_add rfl rfl) ?_
  refine SeqK.q rfl (q_move (v := .pointer _) rfl) ?_
  refine SeqK.q rfl (q_nilCheck rfl) ?_
  refine SeqK.q rfl (q_fieldAddr (sz := 0) Try.underlying107 rfl (by kernel_rfl) rfl) ?_
  refine SeqK.q rfl (q_load (v := .func _ _ _) (by kernel_rfl) rfl (hSl0.old hx) rfl) ?_
  refine SeqK.q rfl (q_move (v := .int _ _) rfl) ?_
  refine SeqK.q rfl (o_callV Try.func67 rfl rfl rfl rfl (k_con (by omega) (hSl0.old hp) (hSl0.old hc))) ?_
  refine SeqK.q rfl (q_add rfl rfl) ?_
  refine SeqK.q rfl (q_move (v := .int _ _) rfl) ?_
  refine SeqK.done ?_
  refine OpsW.q rfl (q_add rfl rfl) ?_
  rw [huw]
  refine OpsW.q rfl (q_assign (v := .int _ _) rfl) ?_
  refine OpsW.nil ?_
  refine SeqP.go ?_
  refine AW.seq ?_
  refine AW.drawK [] 22 rfl (by kernel_rfl) ?_
  refine SeqK.q rfl (q_move (v := .pointer _) rfl) ?_
  refine SeqK.q rfl (q_move (v := .int _ _) rfl) ?_
  refine SeqK.q rfl (q_move (v := .pointer _) rfl) ?_
  refine SeqK.q rfl (q_nilCheck rfl) ?_
  refine SeqK.q rfl (q_fieldAddr (sz := 2) Try.underlying107 rfl (by kernel_rfl) rfl) ?_
  refine SeqK.q rfl (q_loadA (n := 3) (cs := nums .i64 [2, 13, 22]) (by kernel_rfl) rfl (hSl0.old hx) rfl (part_of (j := 11) rfl)) ?_
  refine SeqK.q rfl (o_call rfl Try.func70 rfl rfl (whirl_con (a := 2) (b := 13) (c := 22) (by decide) (by decide) (by decide) (hSl0.old hx))) ?_
  refine SeqK.q rfl (q_move (v := .int _ _) rfl) ?_
  refine SeqK.q rfl (q_indexAddrA0 Try.underlying105 (by kernel_rfl) rfl rfl (by omega) (by omega)) ?_
  refine SeqK.q rfl (q_loadN (by kernel_rfl) rfl (hSl0.blk at1) (by omega)) ?_
  refine SeqK.q rfl (q_and rfl rfl) ?_
  refine SeqK.q rfl (q_move (v := .int _ _) rfl) ?_
  refine SeqK.q rfl (q_indexAddrA0 Try.underlying105 (by kernel_rfl) rfl rfl (by omega) (by omega)) ?_
  refine SeqK.q rfl (q_loadN (by kernel_rfl) rfl (hSl0.blk at1) (by omega)) ?_
  refine SeqK.q rfl (q_and rfl rfl) ?_
  refine SeqK.q rfl (q_xor rfl rfl) ?_
  refine SeqK.q rfl (q_indexAddrA0 Try.underlying105 (by kernel_rfl) rfl rfl (by omega) (by omega)) ?_
  refine SeqK.q rfl (q_loadN (by kernel_rfl) rfl (hSl0.blk at1) (by omega)) ?_
  refine SeqK.q rfl (q_indexAddrA0 Try.underlying105 (by kernel_rfl) rfl rfl (by omega) (by omega)) ?_
  refine SeqK.q rfl (q_loadN (by kernel_rfl) rfl (hSl0.blk at1) (by omega)) ?_
  refine SeqK.q rfl (q_and rfl rfl) ?_
  refine SeqK.q rfl (q_xor rfl rfl) ?_
  refine SeqK.done ?_
  refine OpsW.q rfl (q_add rfl rfl) ?_
  rw [how]
  refine OpsW.q rfl (q_assign (v := .int _ _) rfl) ?_
  refine OpsW.nil ?_
  refine SeqP.go ?_
  refine AW.region ?_
  refine OpsW.q rfl (q_move (v := .int _ _) rfl) ?_
  refine OpsW.q rfl (q_move (v := .int _ _) rfl) ?_
  refine OpsW.q rfl (q_add rfl rfl) ?_
  refine OpsW.q rfl (q_indexAddrA0 Try.underlying105 (by kernel_rfl) rfl rfl (by omega) (by omega)) ?_
  refine OpsW.q rfl (q_loadN (by kernel_rfl) rfl (hSl0.blk at1) (by omega)) ?_
  refine OpsW.q rfl (q_indexAddrA0 Try.underlying105 (by kernel_rfl) rfl rfl (by omega) (by omega)) ?_
  refine OpsW.q rfl (q_loadN (by kernel_rfl) rfl (hSl0.blk at1) (by omega)) ?_
  refine OpsW.q rfl (q_indexAddrA0 Try.underlying105 (by kernel_rfl) rfl rfl (by omega) (by omega)) ?_
  refine OpsW.q rfl (q_loadN (by kernel_rfl) rfl (hSl0.blk at1) (by omega)) ?_
  refine OpsW.q rfl (q_indexAddrA0 Try.underlying105 (by kernel_rfl) rfl rfl (by omega) (by omega)) ?_
  refine OpsW.q rfl (q_loadN (by kernel_rfl) rfl (hSl0.blk at1) (by omega)) ?_
  refine OpsW.q rfl (q_move (v := .int _ _) rfl) ?_
  refine OpsW.q rfl (q_add rfl rfl) ?_
  refine OpsW.q rfl (q_indexAddrA0 Try.underlying105 (by kernel_rfl) rfl rfl (by omega) (by omega)) ?_
  refine OpsW.q rfl (q_loadN (by kernel_rfl) rfl (hSl0.blk at1) (by omega)) ?_
  refine OpsW.q rfl (q_indexAddrA0 Try.underlying105 (by kernel_rfl) rfl rfl (by omega) (by omega)) ?_
  refine OpsW.q rfl (q_loadN (by kernel_rfl) rfl (hSl0.blk at1) (by omega)) ?_
  refine OpsW.q rfl (q_indexAddrA0 Try.underlying105 (by kernel_rfl) rfl rfl (by omega) (by omega)) ?_
  refine OpsW.q rfl (q_loadN (by kernel_rfl) rfl (hSl0.blk at1) (by omega)) ?_
  refine OpsW.q rfl (q_buildN (k := .u32) [_, _, _, _, _, _, _, _] rfl (by kernel_rfl)) ?_
  refine OpsW.ms (s_storeA (n := 8) (k := .u32) hSl0 at1 (by kernel_rfl) rfl rfl (by simp; done) (by simp only [nums_length, List.length_set, List.length_replicate, List.length_take, List.length_drop, List.length_append, List.length_cons, List.length_nil, ofB_length, toB_length]; omega)) ?_
  rintro _ H8 ⟨rfl, hS8⟩
  clear hSl0
  refine OpsW.nil ?_
  refine BlockP.go ?_
  refine SeqP.go ?_
  refine AW.region ?_
  refine OpsW.q rfl (q_addI rfl rfl (by omega)) ?_
  refine OpsW.q rfl (q_move (v := .int _ _) rfl) ?_
  refine OpsW.nil ?_
  exact LoopP.go _ (by omega) ⟨t + 1, _, rfl, (by omega), Slots.eq ⟨(by rfl), (by rfl), (by rfl), (by rfl), (by rfl), (by rfl), (by rfl),  trivial⟩, (by rw [prK_succ, rndW_def]; simp only [← w32_def]; exact hS8)⟩
end
end Go.Proofs.Ytfiojlmccflplaa
end
section
namespace Go.Proofs.Ytfiojlmccflplaa
open Go Go.RowKit D
set_option linter.unusedVariables false
set_option linter.unusedSimpArgs false
set_option maxRecDepth 100000
set_option maxHeartbeats 2000000
section
variable {w0 : World} {H : Hp} {H0 : Hp}
def startK (i : Nat) : List Int := (stL0.take i).map (fun x => w32 (x / 2 ^ 32)) ++ List.replicate (8 - i) 0
theorem stL0_len : stL0.length = 8 := by unfold stL0; rfl
theorem startK_step {i : Nat} (h : i < 8) : (startK i).set i (w32 (stL0.getD i 0 / 2 ^ 32)) = startK (i + 1) := by
  have hl := stL0_len
  unfold startK
  have hk : ((stL0.take i).map (fun x => w32 (x / 2 ^ 32))).length = i := by rw [List.length_map, List.length_take]; omega
  rw [rep_cons h, mid_set hk, List.take_succ_eq_append_getElem (by omega), List.map_append, List.append_assoc, List.getD_eq_getElem?_getD, List.getElem?_eq_getElem (by omega)]
  rfl
theorem startK_fin : startK 8 = startW := by
  unfold startK
  rw [List.take_of_length_le (by rw [stL0_len]; exact Nat.le_refl _), startW_eq]; simp
theorem startK_length {i : Nat} (h : i ≤ 8) : (startK i).length = 8 := by
  unfold startK
  have hl := stL0_len
  rw [List.length_append, List.length_map, List.length_take, List.length_replicate]; omega
theorem kset (b i : Nat) (l : List Int) (v : Int) : (kHead b ++ nums .u32 l).set (15 + i) (.int .u32 v) = kHead b ++ nums .u32 (l.set i v) := by
  rw [List.set_append, if_neg (by rw [show (kHead b).length = 15 from rfl]; omega), show (kHead b).length = 15 from rfl, Nat.add_sub_cancel_left, nums_set]
theorem constants_con : Con Try.prog w0 66 #[] H (fun v H' => ∃ bc, v = .pointer (some ⟨bc, 0, none⟩) ∧ Sep H [.blk bc ⟨nums .u64 kL, 80, 116⟩] H') := by
  have hS0 : Sep H [] H := Sep.refl
  refine Con.intro Try.func66 rfl rfl ?_
  refine AW.seq ?_
  refine AW.region ?_
  refine OpsW.q rfl (q_assign (v := .pointer _) rfl) ?_
  refine OpsW.nil ?_
  refine SeqP.go ?_
  refine AW.seq ?_
  refine AW.region ?_
  refine OpsW.q rfl (q_buildN (k := .u64) [_, _, _, _, _, _, _, _, _, _, _, _, _, _, _, _, _, _, _, _, _, _, _, _, _, _, _, _, _, _, _, _, _, _, _, _, _, _, _, _, _, _, _, _, _, _, _, _, _, _, _, _, _, _, _, _, _, _, _, _, _, _, _, _, _, _, _, _, _, _, _, _, _, _, _, _, _, _, _, _] rfl (by kernel_rfl)) ?_
  refine OpsW.m rfl (s_boxN (k := .u64) hS0 rfl) ?_
  rintro _ H1 ⟨b2, rfl, hS1⟩
  clear hS0
  refine OpsW.q rfl (q_assign (v := .pointer _) rfl) ?_
  refine OpsW.nil ?_
  refine SeqP.go ?_
  refine AW.ret ?_
  refine RetP.mk1 (H' := H1) (v1 := .pointer _) rfl rfl  (Hp.le_refl _) ?_
  have hs := hS1
  refine ⟨_, rfl, ?_⟩
  unfold kL
  exact hs
theorem starts_con  : Con Try.prog w0 68 #[] H (fun v H' => v = .agg (nums .u64 stL0).toArray ∧ H' = H) := by
  have hS0 : Sep H [] H := Sep.refl
  refine Con.intro Try.func68 rfl rfl ?_
  refine AW.seq ?_
  refine AW.region ?_
  refine OpsW.m rfl (s_allocN (k := .u64) (m := 8) hS0 (by kernel_rfl)) ?_
  rintro _ H1 ⟨b0, rfl, hS1⟩
  clear hS0
  refine OpsW.nil ?_
  refine SeqP.go ?_
  refine AW.seq ?_
  refine AW.region ?_
  refine OpsW.q rfl (q_buildN (k := .u64) [_, _, _, _, _, _, _, _] rfl (by kernel_rfl)) ?_
  refine OpsW.ms (s_storeA (n := 8) (k := .u64) hS1 at0 (by kernel_rfl) rfl rfl (by simp; done) (by rfl)) ?_
  rintro _ H2 ⟨rfl, hS2⟩
  clear hS1
  refine OpsW.nil ?_
  refine SeqP.go ?_
  refine AW.ret ?_
  refine RetP.mkc (m := 8) (H' := H) rfl rfl (hS2.blk at0) (by rfl) (by kernel_rfl) hS2.le ?_
  unfold stL0
  exact ⟨rfl, rfl⟩
theorem kind32_con : Con Try.prog w0 63 #[] H (fun v H' => ∃ bx bp bc, v = .pointer (some ⟨bx, 0, none⟩) ∧ Sep H [.blk bx ⟨kCells bp, 23, 107⟩, .blk bp ⟨[.pointer (some ⟨bc, 0, none⟩)], 1, 110⟩, .blk bc ⟨nums .u64 kL, 80, 116⟩] H') := by
  have hS0 : Sep H [] H := Sep.refl
  have hsl := stL0_len
  refine Con.intro Try.func63 rfl rfl ?_
  refine AW.seq ?_
  refine AW.region ?_
  refine OpsW.q rfl (q_assign (v := .pointer _) rfl) ?_
  refine OpsW.nil ?_
  refine SeqP.go ?_
  refine AW.seq ?_
  refine AW.region ?_
  refine OpsW.m rfl (o_call rfl Try.func66 rfl rfl (constants_con)) ?_
  rintro _ H1 ⟨bc, rfl, hR1⟩
  have hS1 := hS0.join hR1
  simp only [List.cons_append, List.nil_append] at hS1
  clear hR1 hS0
  refine OpsW.m rfl (s_alloc (z := .pointer none) (cs := [.pointer none]) hS1 (by kernel_rfl) rfl) ?_
  rintro _ H2 ⟨b1, rfl, hS2⟩
  clear hS1
  refine OpsW.ms (s_storeC (v := .pointer _) hS2 at0 (by kernel_rfl) rfl rfl rfl (by simp only [nums_length, List.length_set, List.length_replicate, List.length_take, List.length_drop, List.length_append, List.length_cons, List.length_nil, ofB_length, toB_length]; omega)) ?_
  rintro _ H3 ⟨rfl, hS3⟩
  clear hS2
  refine OpsW.nil ?_
  refine SeqP.go ?_
  refine AW.seq ?_
  refine AW.region ?_
  refine OpsW.q rfl (q_buildN (k := .i64) [_, _, _] rfl (by kernel_rfl)) ?_
  refine OpsW.q rfl (q_buildN (k := .i64) [_, _, _] rfl (by kernel_rfl)) ?_
  refine OpsW.q rfl (q_buildN (k := .i64) [_, _, _] rfl (by kernel_rfl)) ?_
  refine OpsW.q rfl (q_buildN (k := .i64) [_, _, _] rfl (by kernel_rfl)) ?_
  refine OpsW.q rfl (q_func rfl rfl) ?_
  refine OpsW.q rfl (q_build (cells := (kHead b1 ++ nums .u32 [0, 0, 0, 0, 0, 0, 0, 0]).toArray) rfl (by kernel_rfl)) ?_
  refine OpsW.m rfl (s_box (cs := kHead b1 ++ nums .u32 [0, 0, 0, 0, 0, 0, 0, 0]) hS3 rfl rfl) ?_
  rintro _ H4 ⟨b12, rfl, hS4⟩
  clear hS3
  refine OpsW.q rfl (q_assign (v := .pointer _) rfl) ?_
  refine OpsW.nil ?_
  refine SeqP.go ?_
  refine AW.seq ?_
  refine AW.seq ?_
  refine AW.region ?_
  refine OpsW.q rfl (o_call rfl Try.func68 rfl rfl (starts_con)) ?_
  refine OpsW.q rfl (q_move (v := .int _ _) rfl) ?_
  refine OpsW.nil ?_
  refine SeqP.go ?_
  refine AW.block ?_
  refine AW.loop (fun m_ e_ H_ => ∃ (i : Nat) (e0 : Env), m_ = 8 - i ∧ (i ≤ 8) ∧ e_ = upds e0 [(2, .pointer (some ⟨b12, 0, none⟩)), (13, .agg (nums .u64 stL0).toArray), (14, .int .i64 (i : Int))] ∧ Sep H [.blk b12 ⟨(kHead b1 ++ nums .u32 (startK i)), 23, 107⟩, .blk b1 ⟨[.pointer (some ⟨bc, 0, none⟩)], 1, 110⟩, .blk bc ⟨nums .u64 kL, 80, 116⟩] H_) _ ⟨0, _, rfl, (by omega), Slots.eq ⟨(by rfl), (by rfl), (by rfl),  trivial⟩, (by unfold startK; exact hS4)⟩ ?_
  rintro m_ _ Hl0 ⟨i, e0, rfl, hf, rfl, hSl0⟩
  try clear hS4
  have hkl := startK_length hf
  refine AW.seq ?_
  refine AW.region ?_
  refine OpsW.q rfl (q_lss rfl rfl) ?_
  refine OpsW.nil ?_
  refine SeqP.go ?_
  refine AW.seq ?_
  refine AW.cond2 rfl (fun h0 => ?_) (fun h0 => ?_)
  ·
    try simp only [decide_eq_true_eq, decide_eq_false_iff_not, Bool.or_eq_true, Bool.and_eq_true, Bool.or_eq_false_iff, Bool.and_eq_false_imp, Bool.not_eq_true', Bool.not_eq_false', ne_eq, Decidable.not_not, Int.not_lt, Int.not_le, Bool.not_eq_true, Bool.not_eq_false] at h0
    refine AW.exit ?_
    refine SeqP.exit ?_
    refine LoopP.exit ?_
    obtain rfl : i = 8 := by omega
    rw [startK_fin] at hSl0
    refine BlockP.here ?_
    refine SeqP.go ?_
    refine AW.seq ?_
    refine AW.region ?_
    refine OpsW.q rfl (q_move (v := .pointer _) rfl) ?_
    refine OpsW.q rfl (q_assign (v := .pointer _) rfl) ?_
    refine OpsW.nil ?_
    refine SeqP.go ?_
    refine AW.ret ?_
    refine RetP.mk1 (H' := Hl0) (v1 := .pointer _) rfl rfl  (Hp.le_refl _) ?_
    exact ⟨_, _, _, rfl, hSl0⟩
  try simp only [decide_eq_true_eq, decide_eq_false_iff_not, Bool.or_eq_true, Bool.and_eq_true, Bool.or_eq_false_iff, Bool.and_eq_false_imp, Bool.not_eq_true', Bool.not_eq_false', ne_eq, Decidable.not_not, Int.not_lt, Int.not_le, Bool.not_eq_true, Bool.not_eq_false] at h0
  refine AW.skip ?_
  refine SeqP.go ?_
  refine AW.seq ?_
  refine AW.block ?_
  refine AW.seq ?_
  refine AW.region ?_
  refine OpsW.q rfl (q_move (v := .int _ _) rfl) ?_
  refine OpsW.q rfl (q_indexAN (k := .u64) Try.underlying112 (by kernel_rfl) (by kernel_rfl) rfl rfl (by omega) (by omega) (by with_reducible assumption)) ?_
  refine OpsW.q rfl (q_assign (v := .int _ _) rfl) ?_
  refine OpsW.q rfl (q_assign (v := .int _ _) rfl) ?_
  refine OpsW.nil ?_
  refine SeqP.go ?_
  refine AW.region ?_
  refine OpsW.q rfl (q_move (v := .pointer _) rfl) ?_
  refine OpsW.q rfl (q_move (v := .int _ _) rfl) ?_
  refine OpsW.q rfl (q_move (v := .int _ _) rfl) ?_
  refine OpsW.q rfl (q_shrL 32 rfl rfl (by decide) rfl) ?_
  refine OpsW.q rfl (q_convInt rfl Try.underlying96 rfl) ?_
  refine OpsW.q rfl (q_nilCheck rfl) ?_
  refine OpsW.q rfl (q_fieldTo (sz := 7) 15 Try.underlying107 rfl rfl (by kernel_rfl) rfl) ?_
  refine OpsW.q rfl (q_indexAddrA (sz := 1) Try.underlying105 (by kernel_rfl) rfl rfl (by omega) (by omega)) ?_
  refine OpsW.ms (s_storeC (v := .int .u32 _) hSl0 at0 (by kernel_rfl) rfl rfl rfl (by rw [List.length_append, nums_length, hkl]; show 15 + (i : Int).toNat * 1 < 15 + 8; omega)) ?_
  rintro _ H5 ⟨rfl, hS5⟩
  clear hSl0
  refine OpsW.nil ?_
  refine BlockP.go ?_
  refine SeqP.go ?_
  refine AW.region ?_
  refine OpsW.q rfl (q_addI rfl rfl (by omega)) ?_
  refine OpsW.q rfl (q_move (v := .int _ _) rfl) ?_
  refine OpsW.nil ?_
  exact LoopP.go _ (by omega) ⟨i + 1, _, rfl, (by omega), Slots.eq ⟨(by rfl), (by rfl), (by rfl),  trivial⟩, (by have hs9 := hS5; rw [Nat.mul_one, Int.toNat_natCast, w32_def, kset, startK_step (by omega)] at hs9; exact hs9)⟩
theorem digest_con {bx bp bc : Nat} {d : List UInt8} (hm : d.length ≤ 1099511627776) (hx : H bx = some ⟨kCells bp, 23, 107⟩) (hp : H bp = some ⟨[.pointer (some ⟨bc, 0, none⟩)], 1, 110⟩) (hc : H bc = some ⟨nums .u64 kL, 80, 116⟩) : Con Try.prog w0 62 #[.pointer (some ⟨bx, 0, none⟩), S d] H (fun v H' => v = S (sha256 d) ∧ H' = H) := by
  have hS0 : Sep H [] H := Sep.refl
  have hflm := fullB_length d
  have hsw := startW_length
  have hpl : pads d.length < 64 := pads_lt _
  refine Con.intro Try.func62 rfl rfl ?_
  refine AW.seq ?_
  refine AW.region ?_
  refine OpsW.q rfl (q_assign (v := S _) rfl) ?_
  refine OpsW.nil ?_
  refine SeqP.go ?_
  refine AW.seq ?_
  refine AW.region ?_
  refine OpsW.q rfl (q_move (v := S _) rfl) ?_
  refine OpsW.m rfl (s_bytes hS0 rfl Try.underlying72 Try.underlying5 rfl (by unfold maxLen; omega)) ?_
  rintro v14 H1 hS1
  clear hS0
  refine OpsW.q rfl (q_assign (v := v14) rfl) ?_
  refine OpsW.nil ?_
  refine SeqP.go ?_
  refine AW.seq ?_
  refine AW.region ?_
  refine OpsW.q rfl (q_move (v := v14) rfl) ?_
  refine OpsW.m rfl (s_buildSlice (z := .int .u8 0) (vs := nums .u8 (ofB [128])) hS1 Try.underlying72 (by kernel_rfl) (by kernel_rfl) rfl (by rfl) (by rfl) (by decide) rfl (nums_one _ _) rfl) ?_
  rintro v16 H2 hS2
  clear hS1
  refine OpsW.m rfl (s_append (sz := 1) (by_ := 1) (z := .int .u8 0) hS2 at1 Try.underlying72 (by kernel_rfl) (by kernel_rfl) (by kernel_rfl) rfl (by kernel_rfl) rfl rfl (src_vec (hS2.vec at0) (nums_one _ _)) (by unfold maxLen; omega) (by omega)) ?_
  rintro v17 H3 hS3
  clear hS2
  rw [← nums_append, ← ofB_app] at hS3
  replace hS3 := hS3.del del0
  refine OpsW.q rfl (q_assign (v := v17) rfl) ?_
  refine OpsW.nil ?_
  refine SeqP.go ?_
  refine AW.seq ?_
  refine AW.block ?_
  refine AW.loop (fun m_ e_ H_ => ∃ (j : Nat) (vs : Value) (e0 : Env), m_ = pads d.length - j ∧ (j ≤ pads d.length) ∧ e_ = upds e0 [(0, .pointer (some ⟨bx, 0, none⟩)), (1, S d), (5, vs)] ∧ Sep H [.vec vs 5 1 (d.length + 1 + j) (nums .u8 (ofB (begB d j)))] H_) _ ⟨0, v17, _, rfl, (by omega), Slots.eq ⟨(by rfl), (by rfl), (by rfl),  trivial⟩, (by rw [begB_zero]; exact hS3)⟩ ?_
  rintro m_ _ Hl0 ⟨j, vs, e0, rfl, hf, rfl, hSl0⟩
  try clear hS3
  have hbl := begB_length d j
  refine AW.seq ?_
  refine AW.seq ?_
  refine AW.drawK [] 10 rfl (by kernel_rfl) ?_
  refine SeqK.q rfl (q_move (v := vs) rfl) ?_
  refine SeqK.q rfl (q_lenVec Try.underlying72 rfl (hSl0.vec at0)) ?_
  refine SeqK.q rfl (q_move (v := .pointer _) rfl) ?_
  refine SeqK.q rfl (q_nilCheck rfl) ?_
  refine SeqK.q rfl (q_fieldAddr (sz := 0) Try.underlying107 rfl (by kernel_rfl) rfl) ?_
  refine SeqK.q rfl (q_load (v := .int _ _) (by kernel_rfl) rfl (hSl0.old hx) rfl) ?_
  refine SeqK.q rfl (q_quoI rfl rfl (by omega)) ?_
  refine SeqK.q rfl (q_addI rfl rfl (by omega)) ?_
  refine SeqK.q rfl (q_move (v := .pointer _) rfl) ?_
  refine SeqK.q rfl (o_call rfl Try.func64 rfl rfl (block_con (hSl0.old hx))) ?_
  refine SeqK.done ?_
  refine OpsW.q rfl (q_remI rfl rfl (by omega)) ?_
  refine OpsW.q rfl (q_neq rfl rfl) ?_
  refine OpsW.nil ?_
  refine SeqP.go ?_
  refine AW.cond2 rfl (fun h0 => ?_) (fun h0 => ?_)
  ·
    try simp only [decide_eq_true_eq, decide_eq_false_iff_not, Bool.or_eq_true, Bool.and_eq_true, Bool.or_eq_false_iff, Bool.and_eq_false_imp, Bool.not_eq_true', Bool.not_eq_false', ne_eq, Decidable.not_not, Int.not_lt, Int.not_le, Bool.not_eq_true, Bool.not_eq_false] at h0
    refine AW.exit ?_
    refine SeqP.exit ?_
    refine LoopP.exit ?_
    have hj : j = pads d.length := (pads_stop hf).1 (by omega)
    subst hj
    refine BlockP.here ?_
    refine SeqP.go ?_
    refine AW.seq ?_
    refine AW.seq ?_
    refine AW.region ?_
    refine OpsW.q rfl (q_move (v := .pointer _) rfl) ?_
    refine OpsW.q rfl (q_nilCheck rfl) ?_
    refine OpsW.q rfl (q_fieldAddr (sz := 0) Try.underlying107 rfl (by kernel_rfl) rfl) ?_
    refine OpsW.q rfl (q_load (v := .int _ _) (by kernel_rfl) rfl (hSl0.old hx) rfl) ?_
    refine OpsW.q rfl (q_quoI rfl rfl (by omega)) ?_
    refine OpsW.q rfl (q_subI rfl rfl (by omega)) ?_
    refine OpsW.q rfl (q_assign (v := .int _ _) rfl) ?_
    refine OpsW.nil ?_
    refine SeqP.go ?_
    refine AW.block ?_
    refine AW.loop (fun m_ e_ H_ => ∃ (i : Nat) (vs : Value) (e0 : Env), m_ = 8 - i ∧ (i ≤ 8) ∧ e_ = upds e0 [(0, .pointer (some ⟨bx, 0, none⟩)), (1, S d), (5, vs), (6, .int .i64 ((7 : Int) - (i : Int)))] ∧ Sep H [.vec vs 5 1 ((d.length + 1 + pads d.length) + i) (nums .u8 (ofB (begB d (pads d.length) ++ lenB d.length i)))] H_) _ ⟨0, vs, _, rfl, (by omega), Slots.eq ⟨(by rfl), (by rfl), (by rfl), (by show Value.int .i64 _ = Value.int .i64 _; exact congrArg _ (by decide)),  trivial⟩, (by rw [lenB_zero', List.append_nil]; exact hSl0)⟩ ?_
    rintro m_ _ Hl1 ⟨i, vs, e0, rfl, hf, rfl, hSl1⟩
    try clear hSl0
    have hbl := begB_length d (pads d.length)
    have hll := lenB_length d.length i
    have hlb : IntKind.u64.wrap (IntKind.u64.wrap (d.length : Int) * 8) / 2 ^ min (8 * ((7 : Int) - (i : Int))).toNat IntKind.u64.bits = (8 * (d.length : Int)) / 2 ^ (8 * (7 - i)) := by rw [wrap_u64_in (x := (d.length : Int)) (by omega) (by omega), wrap_u64_in (by omega) (by omega), Int.mul_comm, show min (8 * ((7 : Int) - (i : Int))).toNat IntKind.u64.bits = 8 * (7 - i) from by rw [show IntKind.u64.bits = 64 from rfl]; omega]
    refine AW.seq ?_
    refine AW.seq ?_
    refine AW.region ?_
    refine OpsW.q rfl (q_move (v := .int _ _) rfl) ?_
    refine OpsW.q rfl (q_geq rfl rfl) ?_
    refine OpsW.nil ?_
    refine SeqP.go ?_
    refine AW.cond2 rfl (fun h1 => ?_) (fun h1 => ?_)
    ·
      try simp only [decide_eq_true_eq, decide_eq_false_iff_not, Bool.or_eq_true, Bool.and_eq_true, Bool.or_eq_false_iff, Bool.and_eq_false_imp, Bool.not_eq_true', Bool.not_eq_false', ne_eq, Decidable.not_not, Int.not_lt, Int.not_le, Bool.not_eq_true, Bool.not_eq_false] at h1
      refine AW.exit ?_
      refine SeqP.exit ?_
      refine LoopP.exit ?_
      obtain rfl : i = 8 := by omega
      rw [← fullB_def] at hSl1
      have hfl : (d.length + 1 + pads d.length) + 8 = (fullB d).length := by rw [fullB_def, List.length_append, hbl, hll]
      rw [hfl] at hSl1
      refine BlockP.here ?_
      refine SeqP.go ?_
      refine AW.seq ?_
      refine AW.region ?_
      refine OpsW.q rfl (q_move (v := .pointer _) rfl) ?_
      refine OpsW.q rfl (q_nilCheck rfl) ?_
      refine OpsW.q rfl (q_fieldAddr (sz := 7) Try.underlying107 rfl (by kernel_rfl) rfl) ?_
      refine OpsW.q rfl (q_loadA (n := 8) (cs := nums .u32 startW) (by kernel_rfl) rfl (hSl1.old hx) (by rw [nums_length, startW_length]) (part_of (j := 15) (kCells_start bp))) ?_
      refine OpsW.m rfl (s_allocN (k := .u32) (m := 8) hSl1 (by kernel_rfl)) ?_
      rintro _ H4 ⟨b7, rfl, hS4⟩
      clear hSl1
      refine OpsW.ms (s_storeA (n := 8) (k := .u32) hS4 at0 (by kernel_rfl) rfl rfl (by with_reducible assumption) (by rfl)) ?_
      rintro _ H5 ⟨rfl, hS5⟩
      clear hS4
      refine OpsW.nil ?_
      refine SeqP.go ?_
      refine AW.seq ?_
      refine AW.seq ?_
      refine AW.region ?_
      refine OpsW.q rfl (q_assign (v := .int _ _) rfl) ?_
      refine OpsW.nil ?_
      refine SeqP.go ?_
      refine AW.block ?_
      replace hS5 := Sep.bring del0 hS5
      replace hS5 := Sep.bring del1 hS5
      refine AW.loop (fun m_ e_ H_ => ∃ (i : Nat) (vs : Value) (e0 : Env), m_ = (fullB d).length - 64 * i ∧ (64 * i ≤ (fullB d).length) ∧ e_ = upds e0 [(0, .pointer (some ⟨bx, 0, none⟩)), (5, vs), (7, .pointer (some ⟨b7, 0, none⟩)), (8, .int .i64 ((64 * i : Nat) : Int))] ∧ Sep H [.vec vs 5 1 ((fullB d).length) (nums .u8 (ofB (fullB d))), .blk b7 ⟨nums .u32 ((hashW d i)), 8, 105⟩] H_) _ ⟨0, vs, _, rfl, (by omega), Slots.eq ⟨(by rfl), (by rfl), (by rfl), (by rfl),  trivial⟩, (by rw [hashW_zero']; exact hS5)⟩ ?_
      rintro m_ _ Hl2 ⟨i, vs, e0, rfl, hf, rfl, hSl2⟩
      try clear hS5
      have hhl := hashW_length d i
      have hhl2 : (pressW (hashW d i) (((fullB d).drop (64 * i)).take 64)).length = 8 := pressW_length hhl _
      refine AW.seq ?_
      refine AW.seq ?_
      refine AW.region ?_
      refine OpsW.q rfl (q_move (v := .int _ _) rfl) ?_
      refine OpsW.q rfl (q_move (v := vs) rfl) ?_
      refine OpsW.q rfl (q_lenVec Try.underlying72 rfl (hSl2.vec at0)) ?_
      refine OpsW.q rfl (q_lss rfl rfl) ?_
      refine OpsW.nil ?_
      refine SeqP.go ?_
      refine AW.cond2 rfl (fun h2 => ?_) (fun h2 => ?_)
      ·
        try simp only [decide_eq_true_eq, decide_eq_false_iff_not, Bool.or_eq_true, Bool.and_eq_true, Bool.or_eq_false_iff, Bool.and_eq_false_imp, Bool.not_eq_true', Bool.not_eq_false', ne_eq, Decidable.not_not, Int.not_lt, Int.not_le, Bool.not_eq_true, Bool.not_eq_false] at h2
        refine AW.exit ?_
        refine SeqP.exit ?_
        refine LoopP.exit ?_
        have hi : i = (fullB d).length / 64 := by omega
        subst hi
        refine BlockP.here ?_
        refine SeqP.go ?_
        refine AW.seq ?_
        refine AW.region ?_
        refine OpsW.q rfl (q_assign (v := .slice _ _ _) rfl) ?_
        refine OpsW.nil ?_
        refine SeqP.go ?_
        refine AW.seq ?_
        refine AW.seq ?_
        refine AW.region ?_
        refine OpsW.q rfl (q_loadAN (n := 8) (k := .u32) (by kernel_rfl) rfl (hSl2.blk at1) (by with_reducible assumption)) ?_
        refine OpsW.q rfl (q_move (v := .int _ _) rfl) ?_
        refine OpsW.nil ?_
        refine SeqP.go ?_
        refine AW.block ?_
        replace hSl2 := hSl2.nil (el := 5) (sz := 1)
        replace hSl2 := hSl2.del del1
        replace hSl2 := hSl2.del del1
        refine AW.loop (fun m_ e_ H_ => ∃ (i : Nat) (vo : Value) (e0 : Env), m_ = 8 - i ∧ (i ≤ 8) ∧ e_ = upds e0 [(0, .pointer (some ⟨bx, 0, none⟩)), (9, vo), (77, .agg (nums .u32 (hashW d ((fullB d).length / 64))).toArray), (78, .int .i64 (i : Int))] ∧ Sep H [.vec vo 5 1 (4 * i) (nums .u8 (ofB (outW (hashW d ((fullB d).length / 64)) i)))] H_) _ ⟨0, nilV, _, rfl, (by omega), Slots.eq ⟨(by rfl), (by rfl), (by rfl), (by rfl),  trivial⟩, (by rw [outW_zero']; exact hSl2)⟩ ?_
        rintro m_ _ Hl3 ⟨i, vo, e0, rfl, hf, rfl, hSl3⟩
        try clear hSl2
        have hhl := hashW_length d ((fullB d).length / 64)
        have hol := outW_length (hashW d ((fullB d).length / 64)) i
        refine AW.seq ?_
        refine AW.region ?_
        refine OpsW.q rfl (q_lss rfl rfl) ?_
        refine OpsW.nil ?_
        refine SeqP.go ?_
        refine AW.seq ?_
        refine AW.cond2 rfl (fun h3 => ?_) (fun h3 => ?_)
        ·
          try simp only [decide_eq_true_eq, decide_eq_false_iff_not, Bool.or_eq_true, Bool.and_eq_true, Bool.or_eq_false_iff, Bool.and_eq_false_imp, Bool.not_eq_true', Bool.not_eq_false', ne_eq, Decidable.not_not, Int.not_lt, Int.not_le, Bool.not_eq_true, Bool.not_eq_false] at h3
          refine AW.exit ?_
          refine SeqP.exit ?_
          refine LoopP.exit ?_
          obtain rfl : i = 8 := by omega
          refine BlockP.here ?_
          refine SeqP.go ?_
          refine AW.seq ?_
          refine AW.region ?_
          refine OpsW.q rfl (q_move (v := vo) rfl) ?_
          refine OpsW.q rfl (q_stringB (hSl3.vec at0) Try.underlying72 Try.underlying5 Try.underlying9 rfl) ?_
          refine OpsW.q rfl (q_assign (v := S _) rfl) ?_
          refine OpsW.nil ?_
          refine SeqP.go ?_
          refine AW.ret ?_
          refine RetP.mk1 (H' := H) (v1 := S _) rfl rfl  hSl3.le ?_
          exact ⟨by rw [sha256_def], rfl⟩
        try simp only [decide_eq_true_eq, decide_eq_false_iff_not, Bool.or_eq_true, Bool.and_eq_true, Bool.or_eq_false_iff, Bool.and_eq_false_imp, Bool.not_eq_true', Bool.not_eq_false', ne_eq, Decidable.not_not, Int.not_lt, Int.not_le, Bool.not_eq_true, Bool.not_eq_false] at h3
        refine AW.skip ?_
        refine SeqP.go ?_
        refine AW.seq ?_
        refine AW.block ?_
        refine AW.seq ?_
        refine AW.region ?_
        refine OpsW.q rfl (q_indexAN (k := .u32) Try.underlying105 (by kernel_rfl) (by kernel_rfl) rfl rfl (by omega) (by omega) (by with_reducible assumption)) ?_
        refine OpsW.q rfl (q_assign (v := .int _ _) rfl) ?_
        refine OpsW.nil ?_
        refine SeqP.go ?_
        refine AW.seq ?_
        refine AW.region ?_
        refine OpsW.q rfl (q_move (v := .pointer _) rfl) ?_
        refine OpsW.q rfl (q_nilCheck rfl) ?_
        refine OpsW.q rfl (q_fieldAddr (sz := 0) Try.underlying107 rfl (by kernel_rfl) rfl) ?_
        refine OpsW.q rfl (q_load (v := .int _ _) (by kernel_rfl) rfl (hSl3.old hx) rfl) ?_
        refine OpsW.q rfl (q_subI rfl rfl (by omega)) ?_
        refine OpsW.q rfl (q_assign (v := .int _ _) rfl) ?_
        refine OpsW.nil ?_
        refine SeqP.go ?_
        refine AW.block ?_
        refine AW.loop (fun m_ e_ H_ => ∃ (j : Nat) (vo : Value) (e0 : Env), m_ = 4 - j ∧ (j ≤ 4) ∧ e_ = upds e0 [(0, .pointer (some ⟨bx, 0, none⟩)), (9, vo), (11, .int .u32 ((hashW d ((fullB d).length / 64)).getD i 0)), (12, .int .i64 ((24 : Int) - 8 * (j : Int))), (77, .agg (nums .u32 (hashW d ((fullB d).length / 64))).toArray), (78, .int .i64 (i : Int))] ∧ Sep H [.vec vo 5 1 (4 * i + j) (nums .u8 (ofB (outW (hashW d ((fullB d).length / 64)) i ++ outB4 ((hashW d ((fullB d).length / 64)).getD i 0) j)))] H_) _ ⟨0, vo, _, rfl, (by omega), Slots.eq ⟨(by rfl), (by rfl), (by rfl), (by show Value.int .i64 _ = Value.int .i64 _; exact congrArg _ (by decide)), (by rfl), (by rfl),  trivial⟩, (by rw [outB4_zero', List.append_nil]; exact hSl3)⟩ ?_
        rintro m_ _ Hl4 ⟨j, vo, e0, rfl, hf, rfl, hSl4⟩
        try clear hSl3
        have hjl := outB4_length ((hashW d ((fullB d).length / 64)).getD i 0) j
        have hob : (hashW d ((fullB d).length / 64)).getD i 0 / 2 ^ min ((24 : Int) - 8 * (j : Int)).toNat IntKind.u32.bits = (hashW d ((fullB d).length / 64)).getD i 0 / 2 ^ (8 * (3 - j)) := by rw [show min ((24 : Int) - 8 * (j : Int)).toNat IntKind.u32.bits = 8 * (3 - j) from by rw [show IntKind.u32.bits = 32 from rfl]; omega]
        refine AW.seq ?_
        refine AW.seq ?_
        refine AW.region ?_
        refine OpsW.q rfl (q_move (v := .int _ _) rfl) ?_
        refine OpsW.q rfl (q_geq rfl rfl) ?_
        refine OpsW.nil ?_
        refine SeqP.go ?_
        refine AW.cond2 rfl (fun h4 => ?_) (fun h4 => ?_)
        ·
          try simp only [decide_eq_true_eq, decide_eq_false_iff_not, Bool.or_eq_true, Bool.and_eq_true, Bool.or_eq_false_iff, Bool.and_eq_false_imp, Bool.not_eq_true', Bool.not_eq_false', ne_eq, Decidable.not_not, Int.not_lt, Int.not_le, Bool.not_eq_true, Bool.not_eq_false] at h4
          refine AW.exit ?_
          refine SeqP.exit ?_
          refine LoopP.exit ?_
          obtain rfl : j = 4 := by omega
          rw [← outW_succ] at hSl4
          refine BlockP.here ?_
          refine BlockP.go ?_
          refine SeqP.go ?_
          refine AW.region ?_
          refine OpsW.q rfl (q_addI rfl rfl (by omega)) ?_
          refine OpsW.q rfl (q_move (v := .int _ _) rfl) ?_
          refine OpsW.nil ?_
          exact LoopP.go _ (by omega) ⟨i + 1, vo, _, rfl, (by omega), Slots.eq ⟨(by rfl), (by rfl), (by rfl), (by rfl),  trivial⟩, hSl4⟩
        try simp only [decide_eq_true_eq, decide_eq_false_iff_not, Bool.or_eq_true, Bool.and_eq_true, Bool.or_eq_false_iff, Bool.and_eq_false_imp, Bool.not_eq_true', Bool.not_eq_false', ne_eq, Decidable.not_not, Int.not_lt, Int.not_le, Bool.not_eq_true, Bool.not_eq_false] at h4
        refine AW.skip ?_
        refine SeqP.go ?_
        refine AW.seq ?_
        refine AW.block ?_
        refine AW.region ?_
        refine OpsW.q rfl (q_move (v := vo) rfl) ?_
        refine OpsW.q rfl (q_move (v := .int _ _) rfl) ?_
        refine OpsW.q rfl (q_move (v := .int _ _) rfl) ?_
        refine OpsW.q rfl (q_shr rfl rfl (by omega)) ?_
        refine OpsW.q rfl (q_convB8 rfl Try.underlying5 rfl) ?_
        rw [hob]
        refine OpsW.m rfl (s_buildSlice (z := .int .u8 0) (vs := nums .u8 (ofB [_])) hSl4 Try.underlying72 (by kernel_rfl) (by kernel_rfl) rfl (by rfl) (by rfl) (by decide) rfl (nums_one _ _) rfl) ?_
        rintro v95 H6 hS6
        clear hSl4
        refine OpsW.m rfl (s_append (sz := 1) (by_ := 1) (z := .int .u8 0) hS6 at1 Try.underlying72 (by kernel_rfl) (by kernel_rfl) (by kernel_rfl) rfl (by kernel_rfl) rfl rfl (src_vec (hS6.vec at0) (nums_one _ _)) (by unfold maxLen; omega) (by omega)) ?_
        rintro v96 H7 hS7
        clear hS6
        rw [← nums_append, ← ofB_app] at hS7
        replace hS7 := hS7.del del0
        refine OpsW.q rfl (q_assign (v := v96) rfl) ?_
        refine OpsW.nil ?_
        refine BlockP.go ?_
        refine SeqP.go ?_
        refine AW.region ?_
        refine OpsW.q rfl (q_move (v := .int _ _) rfl) ?_
        refine OpsW.q rfl (q_subI rfl rfl (by omega)) ?_
        refine OpsW.q rfl (q_assign (v := .int _ _) rfl) ?_
        refine OpsW.nil ?_
        exact LoopP.go _ (by omega) ⟨j + 1, v96, _, rfl, (by omega), Slots.eq ⟨(by rfl), (by rfl), (by rfl), (by show Value.int .i64 _ = Value.int .i64 _; exact congrArg _ (by omega)), (by rfl), (by rfl),  trivial⟩, (by rw [outB4_succ, ← List.append_assoc]; exact hS7)⟩
      try simp only [decide_eq_true_eq, decide_eq_false_iff_not, Bool.or_eq_true, Bool.and_eq_true, Bool.or_eq_false_iff, Bool.and_eq_false_imp, Bool.not_eq_true', Bool.not_eq_false', ne_eq, Decidable.not_not, Int.not_lt, Int.not_le, Bool.not_eq_true, Bool.not_eq_false] at h2
      have hup : 64 * i + 64 ≤ (fullB d).length := by omega
      have hsub : (((fullB d).drop (64 * i)).take 64).length = 64 := by rw [List.length_take, List.length_drop]; omega
      have hcut : ((fullB d).drop (((64 * i : Nat) : Int)).toNat).take ((((64 * i : Nat) : Int) + 64).toNat - (((64 * i : Nat) : Int)).toNat) = ((fullB d).drop (64 * i)).take 64 := by rw [show (((64 * i : Nat) : Int) + 64).toNat - (((64 * i : Nat) : Int)).toNat = 64 from by omega, Int.toNat_natCast]
      refine AW.skip ?_
      refine SeqP.go ?_
      refine AW.seq ?_
      refine AW.block ?_
      refine AW.drawK [] 10 rfl (by kernel_rfl) ?_
      refine SeqK.q rfl (q_move (v := .pointer _) rfl) ?_
      refine SeqK.q rfl (q_loadAN (n := 8) (k := .u32) (by kernel_rfl) rfl (hSl2.blk at1) (by with_reducible assumption)) ?_
      refine SeqK.q rfl (q_move (v := vs) rfl) ?_
      refine SeqK.q rfl (q_move (v := .int _ _) rfl) ?_
      refine SeqK.q rfl (q_move (v := .int _ _) rfl) ?_
      refine SeqK.q rfl (q_move (v := .pointer _) rfl) ?_
      refine SeqK.q rfl (o_call rfl Try.func64 rfl rfl (block_con (hSl2.old hx))) ?_
      refine SeqK.q rfl (q_addI rfl rfl (by omega)) ?_
      refine SeqK.q rfl (q_sliceVec (hSl2.vec at0) Try.underlying72 (by kernel_rfl) rfl rfl rfl (by omega) (by omega) (by omega) (by omega)) ?_
      refine SeqK.q rfl (q_stringSub (hSl2.vec at0) Try.underlying72 Try.underlying5 Try.underlying9 rfl (by omega) (by omega) (by omega)) ?_
      rw [hcut]
      refine SeqK.done ?_
      refine OpsW.q rfl (o_call rfl Try.func65 rfl rfl (press_con (hashW_length d i) hsub (hSl2.old hx) (hSl2.old hp) (hSl2.old hc))) ?_
      refine OpsW.ms (s_storeA (n := 8) (k := .u32) hSl2 at1 (by kernel_rfl) rfl rfl (by with_reducible assumption) (by simp only [nums_length, List.length_set, List.length_replicate, List.length_take, List.length_drop, List.length_append, List.length_cons, List.length_nil, ofB_length, toB_length]; omega)) ?_
      rintro _ H8 ⟨rfl, hS8⟩
      clear hSl2
      refine OpsW.nil ?_
      refine BlockP.go ?_
      refine SeqP.go ?_
      refine AW.region ?_
      refine OpsW.q rfl (q_move (v := .int _ _) rfl) ?_
      refine OpsW.q rfl (q_move (v := .pointer _) rfl) ?_
      refine OpsW.q rfl (o_call rfl Try.func64 rfl rfl (block_con (hS8.old hx))) ?_
      refine OpsW.q rfl (q_addI rfl rfl (by omega)) ?_
      refine OpsW.q rfl (q_assign (v := .int _ _) rfl) ?_
      refine OpsW.nil ?_
      exact LoopP.go _ (by omega) ⟨i + 1, vs, _, rfl, (by omega), Slots.eq ⟨(by rfl), (by rfl), (by rfl), (by rfl),  trivial⟩, (by rw [hashW_succ]; exact hS8)⟩
    try simp only [decide_eq_true_eq, decide_eq_false_iff_not, Bool.or_eq_true, Bool.and_eq_true, Bool.or_eq_false_iff, Bool.and_eq_false_imp, Bool.not_eq_true', Bool.not_eq_false', ne_eq, Decidable.not_not, Int.not_lt, Int.not_le, Bool.not_eq_true, Bool.not_eq_false] at h1
    refine AW.skip ?_
    refine SeqP.go ?_
    refine AW.seq ?_
    refine AW.block ?_
    refine AW.region ?_
    refine OpsW.q rfl (q_move (v := vs) rfl) ?_
    refine OpsW.q rfl (q_move (v := S _) rfl) ?_
    refine OpsW.q rfl (q_lenS Try.underlying9 rfl) ?_
    refine OpsW.q rfl (q_convInt rfl Try.underlying97 rfl) ?_
    refine OpsW.q rfl (q_mul rfl rfl) ?_
    refine OpsW.q rfl (q_move (v := .int _ _) rfl) ?_
    refine OpsW.q rfl (q_mulI rfl rfl (by omega)) ?_
    refine OpsW.q rfl (q_shr rfl rfl (by omega)) ?_
    refine OpsW.q rfl (q_convB8 rfl Try.underlying5 rfl) ?_
    rw [hlb]
    refine OpsW.m rfl (s_buildSlice (z := .int .u8 0) (vs := nums .u8 (ofB [_])) hSl1 Try.underlying72 (by kernel_rfl) (by kernel_rfl) rfl (by rfl) (by rfl) (by decide) rfl (nums_one _ _) rfl) ?_
    rintro v52 H9 hS9
    clear hSl1
    refine OpsW.m rfl (s_append (sz := 1) (by_ := 1) (z := .int .u8 0) hS9 at1 Try.underlying72 (by kernel_rfl) (by kernel_rfl) (by kernel_rfl) rfl (by kernel_rfl) rfl rfl (src_vec (hS9.vec at0) (nums_one _ _)) (by unfold maxLen; omega) (by omega)) ?_
    rintro v53 H10 hS10
    clear hS9
    rw [← nums_append, ← ofB_app] at hS10
    replace hS10 := hS10.del del0
    refine OpsW.q rfl (q_assign (v := v53) rfl) ?_
    refine OpsW.nil ?_
    refine BlockP.go ?_
    refine SeqP.go ?_
    refine AW.region ?_
    refine OpsW.q rfl (q_move (v := .int _ _) rfl) ?_
    refine OpsW.q rfl (q_subI rfl rfl (by omega)) ?_
    refine OpsW.q rfl (q_assign (v := .int _ _) rfl) ?_
    refine OpsW.nil ?_
    exact LoopP.go _ (by omega) ⟨i + 1, v53, _, rfl, (by omega), Slots.eq ⟨(by rfl), (by rfl), (by rfl), (by show Value.int .i64 _ = Value.int .i64 _; exact congrArg _ (by omega)),  trivial⟩, (by rw [lenB_succ, ← List.append_assoc]; exact hS10)⟩
  try simp only [decide_eq_true_eq, decide_eq_false_iff_not, Bool.or_eq_true, Bool.and_eq_true, Bool.or_eq_false_iff, Bool.and_eq_false_imp, Bool.not_eq_true', Bool.not_eq_false', ne_eq, Decidable.not_not, Int.not_lt, Int.not_le, Bool.not_eq_true, Bool.not_eq_false] at h0
  have hjl : j < pads d.length := by { rcases Nat.lt_or_ge j (pads d.length) with g | g; exact g; exfalso; have hz := (pads_stop hf).2 (by omega); omega }
  refine AW.skip ?_
  refine SeqP.go ?_
  refine AW.block ?_
  refine AW.region ?_
  refine OpsW.q rfl (q_move (v := vs) rfl) ?_
  refine OpsW.m rfl (s_buildSlice (z := .int .u8 0) (vs := nums .u8 (ofB [0])) hSl0 Try.underlying72 (by kernel_rfl) (by kernel_rfl) rfl (by rfl) (by rfl) (by decide) rfl (nums_one _ _) rfl) ?_
  rintro v31 H11 hS11
  clear hSl0
  refine OpsW.m rfl (s_append (sz := 1) (by_ := 1) (z := .int .u8 0) hS11 at1 Try.underlying72 (by kernel_rfl) (by kernel_rfl) (by kernel_rfl) rfl (by kernel_rfl) rfl rfl (src_vec (hS11.vec at0) (nums_one _ _)) (by unfold maxLen; omega) (by omega)) ?_
  rintro v32 H12 hS12
  clear hS11
  rw [← nums_append, ← ofB_app] at hS12
  replace hS12 := hS12.del del0
  refine OpsW.q rfl (q_assign (v := v32) rfl) ?_
  refine OpsW.nil ?_
  refine BlockP.go ?_
  exact LoopP.go _ (by omega) ⟨j + 1, v32, _, rfl, (by omega), Slots.eq ⟨(by rfl), (by rfl), (by rfl),  trivial⟩, (by rw [begB_succ]; exact hS12)⟩
theorem Sum256_con {d : List UInt8} (hm : d.length ≤ 1099511627776) : Con Try.prog w0 56 #[S d] H (fun v H' => v = S (sha256 d) ∧ H' = H) := by
  have hS0 : Sep H [] H := Sep.refl
  refine Con.intro Try.func56 rfl rfl ?_
  refine AW.seq ?_
  refine AW.region ?_
  refine OpsW.q rfl (q_assign (v := S _) rfl) ?_
  refine OpsW.nil ?_
  refine SeqP.go ?_
  refine AW.seq ?_
  refine AW.region ?_
  refine OpsW.m rfl (o_call rfl Try.func63 rfl rfl (kind32_con)) ?_
  rintro _ H1 ⟨bx, bp, bc, rfl, hR1⟩
  have hS1 := hS0.join hR1
  simp only [List.cons_append, List.nil_append] at hS1
  clear hR1 hS0
  refine OpsW.q rfl (q_move (v := S _) rfl) ?_
  refine OpsW.q rfl (o_call rfl Try.func62 rfl rfl (digest_con hm (hS1.blk at0) (hS1.blk at1) (hS1.blk at2))) ?_
  refine OpsW.q rfl (q_assign (v := S _) rfl) ?_
  refine OpsW.nil ?_
  refine SeqP.go ?_
  refine AW.ret ?_
  refine RetP.mk1 (H' := H) (v1 := S _) rfl rfl  hS1.le ?_
  exact ⟨rfl, rfl⟩
end
end Go.Proofs.Ytfiojlmccflplaa
end
section
namespace Go.Proofs.Ytfiojlmccflplaa.D
open Go Go.RowKit
set_option linter.unusedVariables false
set_option linter.unusedSimpArgs false
section
variable {P : Program} {w0 : World} {ρ : Operand → Value} {d : Option Tmp} {ty : TypeId} {pos : String} {af : Array Edge} {g : Option (Nat × Bool)} {H : Hp}
theorem str_beq (s t : List UInt8) : ((str s).toList == (str t).toList) = decide (s = t) := by
  have h : ∀ l : List UInt8, (str l).toList = l := fun l => by rw [ByteArray.toList_eq]; simp [str]
  rw [h, h]
  by_cases e : s = t
  · subst e; simp
  · simp [e]
theorem equal_rec {t : TypeId} {f1 f2 : Field} (hS : P.underlying t = some (.struct #[f1, f2])) (hp : P.stoodInHeld t = false) (n1 : (f1.name != "_") = true) (n2 : (f2.name != "_") = true) (o1 : f1.offset = 0) (o2 : f2.offset = 1)
    (s1 : scalT P f1.type = true) (s2 : scalT P f2.type = true) (u1 : P.underlying f1.type = some (.int .i64)) (u2 : P.underlying f2.type = some .string) (a b : Int) (s r : List UInt8) (w : World) :
    (Op.equalIn 10000 t (.agg #[.int .i64 a, S s]) (.agg #[.int .i64 b, S r])).run P w = .ok (decide (a = b) && decide (s = r)) w := by
  have hF : P.fieldsOf t = #[f1, f2] := by unfold Program.fieldsOf; rw [hS]
  rw [show (10000 : Nat) = 9999 + 1 from rfl, run_equalIn_agg w 9999 t _ _ (by rw [hF]; exact hS) hp, hF]
  have h1 : f1.name ≠ "_" := by simpa using n1
  have h2 : f2.name ≠ "_" := by simpa using n2
  have p1 : ∀ (x : Int) (z : List UInt8), (part f1.type #[.int .i64 x, S z] f1.offset).run P w = .ok (.int .i64 x) w := fun x z => by simp [part, run_isAgg_scal s1, o1]
  have p2 : ∀ (x : Int) (z : List UInt8), (part f2.type #[.int .i64 x, S z] f2.offset).run P w = .ok (S z) w := fun x z => by simp [part, run_isAgg_scal s2, o2]
  have e1 : (Op.equalIn 9999 f1.type (.int .i64 a) (.int .i64 b)).run P w = .ok (a == b) w := run_equalIn_int (P := P) w 9998 f1.type .i64 .i64 a b u1
  have e2 : (Op.equalIn 9999 f2.type (S s) (S r)).run P w = .ok (decide (s = r)) w := by
    have := run_equalIn_string (P := P) w 9998 f2.type (str s) (str r) u2
    rw [str_beq] at this
    exact this
  simp only [Op.eqFields, h1, h2, ne_eq, not_false_eq_true, if_true, Sem.run_bind, p1, p2, Result.andThen_ok, e1, e2]
  by_cases hab : a = b
  · subst hab
    by_cases hsr : s = r
    · subst hsr; simp [p2, e2]
    · simp [p2, e2, hsr]
  · have : (a == b) = false := by simpa using hab
    simp [this, hab]
theorem q_neqRec {xt yt : TypeId} {x y : Operand} {f1 f2 : Field} {a b : Int} {s r : List UInt8} (hS : P.underlying xt = some (.struct #[f1, f2])) (hp : P.stoodInHeld xt = false) (n1 : (f1.name != "_") = true) (n2 : (f2.name != "_") = true) (o1 : f1.offset = 0) (o2 : f2.offset = 1)
    (s1 : scalT P f1.type = true) (s2 : scalT P f2.type = true) (u1 : P.underlying f1.type = some (.int .i64)) (u2 : P.underlying f2.type = some .string) (hm : P.eqGuardType P.depth xt = false)
    (hx : ρ x = .agg #[.int .i64 a, S s]) (hy : ρ y = .agg #[.int .i64 b, S r]) : QS P w0 ρ ⟨d, .binOp .neq xt x y yt, ty, pos, af, g⟩ H (.bool (!(decide (a = b) && decide (s = r)))) :=
  QS.of_run fun w _ => by
    simp only [execOp, hx, hy, Sem.run_bind, run_eqGuard_agg w .neq xt x y _ _ hm, Result.andThen_ok, run_neq_struct, equal_rec hS hp n1 n2 o1 o2 s1 s2 u1 u2, Sem.run_pure]
end
theorem q_neqRecord {w0 : World} {ρ : Operand → Value} {d : Option Tmp} {ty yt : TypeId} {pos : String} {af : Array Edge} {g : Option (Nat × Bool)} {H : Hp} {x y : Operand} {a b : Int} {s r : List UInt8} (hx : ρ x = .agg #[.int .i64 a, S s]) (hy : ρ y = .agg #[.int .i64 b, S r]) :
    QS Try.prog w0 ρ ⟨d, .binOp .neq 44 x y yt, ty, pos, af, g⟩ H (.bool (!(decide (a = b) && decide (s = r)))) :=
  q_neqRec Try.underlying44 (by kernel_rfl) (by rfl) (by rfl) rfl rfl (by kernel_rfl) (by kernel_rfl) Try.underlying3 Try.underlying9 (by kernel_rfl) hx hy
end Go.Proofs.Ytfiojlmccflplaa.D
end
section
namespace Go.Proofs.Ytfiojlmccflplaa
open Go Go.RowKit D
set_option linter.unusedVariables false
set_option linter.unusedSimpArgs false
set_option maxRecDepth 100000
set_option maxHeartbeats 2000000
section
variable {w0 : World} {H : Hp} {H0 : Hp}
theorem numberS_con {s : List UInt8} (h4 : 4 ≤ s.length) : Con Try.prog w0 55 #[S s] H (fun v H' => v = .int .i64 (numB s) ∧ H' = H) := by
  have hS0 : Sep H [] H := Sep.refl
  have b0 := bt_range s 0
  have b1 := bt_range s 1
  have b2 := bt_range s 2
  have b3 := bt_range s 3
  refine Con.intro Try.func55 rfl rfl ?_
  refine AW.seq ?_
  refine AW.region ?_
  refine OpsW.q rfl (q_assign (v := .int _ _) rfl) ?_
  refine OpsW.nil ?_
  refine SeqP.go ?_
  refine AW.seq ?_
  refine AW.drawK [] 17 rfl (by kernel_rfl) ?_
  refine SeqK.q rfl (q_move (v := S _) rfl) ?_
  refine SeqK.q rfl (q_indexSL 0 Try.underlying9 rfl rfl (by omega)) ?_
  refine SeqK.q rfl (q_convBI rfl Try.underlying3 rfl) ?_
  refine SeqK.q rfl (q_shlL 24 rfl rfl (by decide) rfl) ?_
  refine SeqK.q rfl (q_move (v := S _) rfl) ?_
  refine SeqK.q rfl (q_indexSL 1 Try.underlying9 rfl rfl (by omega)) ?_
  refine SeqK.q rfl (q_convBI rfl Try.underlying3 rfl) ?_
  refine SeqK.q rfl (q_shlL 16 rfl rfl (by decide) rfl) ?_
  refine SeqK.q rfl (q_or rfl rfl) ?_
  refine SeqK.q rfl (q_move (v := S _) rfl) ?_
  refine SeqK.q rfl (q_indexSL 2 Try.underlying9 rfl rfl (by omega)) ?_
  refine SeqK.q rfl (q_convBI rfl Try.underlying3 rfl) ?_
  refine SeqK.q rfl (q_shlL 8 rfl rfl (by decide) rfl) ?_
  refine SeqK.q rfl (q_or rfl rfl) ?_
  refine SeqK.q rfl (q_move (v := S _) rfl) ?_
  refine SeqK.q rfl (q_indexSL 3 Try.underlying9 rfl rfl (by omega)) ?_
  refine SeqK.q rfl (q_convBI rfl Try.underlying3 rfl) ?_
  refine SeqK.done ?_
  refine OpsW.q rfl (q_or rfl rfl) ?_
  refine OpsW.q rfl (q_assign (v := .int _ _) rfl) ?_
  refine OpsW.nil ?_
  refine SeqP.go ?_
  refine AW.ret ?_
  refine RetP.mk1 (H' := H) (v1 := .int _ _) rfl rfl  hS0.le ?_
  refine ⟨?_, rfl⟩
  exact congrArg (Value.int .i64) (num_eq s)
theorem fourS_con (n : Int) : Con Try.prog w0 57 #[.int .i64 n] H (fun v H' => v = S (fourB n) ∧ H' = H) := by
  have hS0 : Sep H [] H := Sep.refl
  refine Con.intro Try.func57 rfl rfl ?_
  refine AW.seq ?_
  refine AW.region ?_
  refine OpsW.q rfl (q_assign (v := S _) rfl) ?_
  refine OpsW.nil ?_
  refine SeqP.go ?_
  refine AW.seq ?_
  refine AW.region ?_
  refine OpsW.q rfl (q_move (v := .int _ _) rfl) ?_
  refine OpsW.q rfl (q_shrL 24 rfl rfl (by decide) rfl) ?_
  refine OpsW.q rfl (q_convInt rfl Try.underlying5 rfl) ?_
  refine OpsW.q rfl (q_move (v := .int _ _) rfl) ?_
  refine OpsW.q rfl (q_shrL 16 rfl rfl (by decide) rfl) ?_
  refine OpsW.q rfl (q_convInt rfl Try.underlying5 rfl) ?_
  refine OpsW.q rfl (q_move (v := .int _ _) rfl) ?_
  refine OpsW.q rfl (q_shrL 8 rfl rfl (by decide) rfl) ?_
  refine OpsW.q rfl (q_convInt rfl Try.underlying5 rfl) ?_
  refine OpsW.q rfl (q_move (v := .int _ _) rfl) ?_
  refine OpsW.q rfl (q_convInt rfl Try.underlying5 rfl) ?_
  refine OpsW.m rfl (s_buildSlice (z := .int .u8 0) (vs := nums .u8 [_, _, _, _]) hS0 Try.underlying72 (by kernel_rfl) (by kernel_rfl) rfl (by rfl) (by rfl) (by decide) rfl (nums_one _ _) rfl) ?_
  rintro v14 H1 hS1
  clear hS0
  refine OpsW.q rfl (q_stringVec (hS1.vec at0) Try.underlying72 Try.underlying5 Try.underlying9 rfl) ?_
  refine OpsW.q rfl (q_assign (v := S _) rfl) ?_
  refine OpsW.nil ?_
  refine SeqP.go ?_
  refine AW.ret ?_
  refine RetP.mk1 (H' := H) (v1 := S _) rfl rfl  hS1.le ?_
  exact ⟨by rw [fourB_def], rfl⟩
theorem zero_con  : Con Try.prog w0 38 #[] H (fun v H' => v = S z32 ∧ H' = H) := by
  have hS0 : Sep H [] H := Sep.refl
  refine Con.intro Try.func38 rfl rfl ?_
  refine AW.seq ?_
  refine AW.region ?_
  refine OpsW.q rfl (q_assign (v := S _) rfl) ?_
  refine OpsW.nil ?_
  refine SeqP.go ?_
  refine AW.seq ?_
  refine AW.region ?_
  refine OpsW.m rfl (s_makeSliceB (by_ := 1) hS0 Try.underlying72 (by kernel_rfl) (by kernel_rfl) (by kernel_rfl) rfl rfl (by omega) (by omega) (by omega) (by omega) (by unfold maxLen; omega)) ?_
  rintro v1 H1 hS1
  clear hS0
  refine OpsW.q rfl (q_stringB (hS1.vec at0) Try.underlying72 Try.underlying5 Try.underlying9 rfl) ?_
  refine OpsW.q rfl (q_assign (v := S _) rfl) ?_
  refine OpsW.nil ?_
  refine SeqP.go ?_
  refine AW.ret ?_
  refine RetP.mk1 (H' := H) (v1 := S _) rfl rfl  hS1.le ?_
  exact ⟨rfl, rfl⟩
theorem firstS_con {s hd : List UInt8} (hm : s.length ≤ 1000000000) (hh : hd.length ≤ 1000000) : Con Try.prog w0 39 #[S s, S hd] H (fun v H' => v = .tuple #[.agg #[S (firstS s hd).1.body, .int .i64 (firstS s hd).1.size, S (firstS s hd).1.next], .bool (firstS s hd).2] ∧ H' = H) := by
  have hS0 : Sep H [] H := Sep.refl
  have hnr := numB_range s
  refine Con.intro Try.func39 rfl rfl ?_
  refine AW.seq ?_
  refine AW.region ?_
  refine OpsW.m rfl (s_alloc (z := .agg #[S [], .int .i64 0, S []]) (cs := [S [], .int .i64 0, S []]) hS0 (by kernel_rfl) rfl) ?_
  rintro _ H1 ⟨b4, rfl, hS1⟩
  clear hS0
  refine OpsW.q rfl (q_assign (v := .bool _) rfl) ?_
  refine OpsW.nil ?_
  refine SeqP.go ?_
  refine AW.seq ?_
  refine AW.seq ?_
  refine AW.region ?_
  refine OpsW.q rfl (q_move (v := S _) rfl) ?_
  refine OpsW.q rfl (q_lenS Try.underlying9 rfl) ?_
  refine OpsW.q rfl (q_lss rfl rfl) ?_
  refine OpsW.nil ?_
  refine SeqP.go ?_
  refine AW.cond rfl (fun h0 => ?_) (fun h0 => ?_)
  ·
    try simp only [decide_eq_true_eq, decide_eq_false_iff_not, Bool.or_eq_true, Bool.and_eq_true, Bool.or_eq_false_iff, Bool.and_eq_false_imp, Bool.not_eq_true', Bool.not_eq_false', ne_eq, Decidable.not_not, Int.not_lt, Int.not_le, Bool.not_eq_true, Bool.not_eq_false] at h0
    rw [firstS_no (by unfold frOk; omega)]
    refine AW.seq ?_
    refine AW.region ?_
    refine OpsW.q rfl (q_build (cells := #[S [], .int .i64 0, S []]) rfl (by kernel_rfl)) ?_
    refine OpsW.ms (s_storeS (n := 3) hS1 at0 (by kernel_rfl) rfl rfl rfl (ones_all rfl) rfl) ?_
    rintro _ H2 ⟨rfl, hS2⟩
    clear hS1
    refine OpsW.q rfl (q_assign (v := .bool _) rfl) ?_
    refine OpsW.nil ?_
    refine SeqP.go ?_
    refine AW.ret ?_
    refine SeqP.ret ?_
    refine RetP.mkc1 (m := 3) (v2 := .bool _) (H' := H) rfl rfl rfl (hS2.blk at0) (by simp; done) (by kernel_rfl) hS2.le ?_
    exact ⟨rfl, rfl⟩
  try simp only [decide_eq_true_eq, decide_eq_false_iff_not, Bool.or_eq_true, Bool.and_eq_true, Bool.or_eq_false_iff, Bool.and_eq_false_imp, Bool.not_eq_true', Bool.not_eq_false', ne_eq, Decidable.not_not, Int.not_lt, Int.not_le, Bool.not_eq_true, Bool.not_eq_false] at h0
  refine AW.skip ?_
  refine SeqP.go ?_
  refine AW.seq ?_
  refine AW.region ?_
  refine OpsW.q rfl (q_move (v := S _) rfl) ?_
  refine OpsW.q rfl (o_call rfl Try.func55 rfl rfl (numberS_con (by omega))) ?_
  refine OpsW.q rfl (q_assign (v := .int _ _) rfl) ?_
  refine OpsW.nil ?_
  refine SeqP.go ?_
  refine AW.seq ?_
  refine AW.seq ?_
  refine AW.region ?_
  refine OpsW.q rfl (q_move (v := .int _ _) rfl) ?_
  refine OpsW.q rfl (q_lss rfl rfl) ?_
  refine OpsW.qb rfl (q_move (v := .bool _) rfl) ?_
  intro b16 eb16
  refine OpsW.g rfl rfl rfl (fun hB => by simp only [Bool.and_eq_true, beq_iff_eq] at hB; obtain rfl := hB; exact (q_move (v := .int _ _) rfl)) ?_
  refine OpsW.g rfl rfl rfl (fun hB => by simp only [Bool.and_eq_true, beq_iff_eq] at hB; obtain rfl := hB; exact (q_gtr rfl rfl)) ?_
  refine OpsW.q rfl (q_or2 rfl rfl rfl) ?_
  refine OpsW.qb rfl (q_move (v := .bool _) rfl) ?_
  intro b20 eb20
  refine OpsW.g rfl rfl rfl (fun hB => by simp only [Bool.and_eq_true, beq_iff_eq] at hB; obtain rfl := hB; exact (q_move (v := S _) rfl)) ?_
  refine OpsW.g rfl rfl rfl (fun hB => by simp only [Bool.and_eq_true, beq_iff_eq] at hB; obtain rfl := hB; exact (q_lenS Try.underlying9 rfl)) ?_
  refine OpsW.g rfl rfl rfl (fun hB => by simp only [Bool.and_eq_true, beq_iff_eq] at hB; obtain rfl := hB; exact (q_move (v := .int _ _) rfl)) ?_
  refine OpsW.g rfl rfl rfl (fun hB => by simp only [Bool.and_eq_true, beq_iff_eq] at hB; obtain rfl := hB; (try simp only [eb16, Bool.true_eq, Bool.false_eq, decide_eq_true_eq, Bool.and_eq_true, Bool.or_eq_true, Bool.or_eq_false_iff, Bool.not_eq_true', decide_eq_false_iff_not, Int.not_lt, Int.not_le] at eb20); exact (q_addI rfl rfl (by omega))) ?_
  refine OpsW.g rfl rfl rfl (fun hB => by simp only [Bool.and_eq_true, beq_iff_eq] at hB; obtain rfl := hB; (try simp only [eb16, Bool.true_eq, Bool.false_eq, decide_eq_true_eq, Bool.and_eq_true, Bool.or_eq_true, Bool.or_eq_false_iff, Bool.not_eq_true', decide_eq_false_iff_not, Int.not_lt, Int.not_le] at eb20); exact (q_addI rfl rfl (by omega))) ?_
  refine OpsW.g rfl rfl rfl (fun hB => by simp only [Bool.and_eq_true, beq_iff_eq] at hB; obtain rfl := hB; exact (q_lss rfl rfl)) ?_
  refine OpsW.q rfl (q_or2 rfl rfl rfl) ?_
  refine OpsW.nil ?_
  refine SeqP.go ?_
  refine AW.cond rfl (fun h1 => ?_) (fun h1 => ?_)
  ·
    try simp only [eb16, eb20, decide_eq_true_eq, decide_eq_false_iff_not, Bool.or_eq_true, Bool.and_eq_true, Bool.or_eq_false_iff, Bool.and_eq_false_imp, Bool.not_eq_true', Bool.not_eq_false', ne_eq, Decidable.not_not, Int.not_lt, Int.not_le, Bool.not_eq_true, Bool.not_eq_false] at h1
    rw [firstS_no (by unfold frOk; simp_all <;> omega)]
    refine AW.seq ?_
    refine AW.region ?_
    refine OpsW.q rfl (q_build (cells := #[S [], .int .i64 0, S []]) rfl (by kernel_rfl)) ?_
    refine OpsW.ms (s_storeS (n := 3) hS1 at0 (by kernel_rfl) rfl rfl rfl (ones_all rfl) rfl) ?_
    rintro _ H3 ⟨rfl, hS3⟩
    clear hS1
    refine OpsW.q rfl (q_assign (v := .bool _) rfl) ?_
    refine OpsW.nil ?_
    refine SeqP.go ?_
    refine AW.ret ?_
    refine SeqP.ret ?_
    refine RetP.mkc1 (m := 3) (v2 := .bool _) (H' := H) rfl rfl rfl (hS3.blk at0) (by simp; done) (by kernel_rfl) hS3.le ?_
    exact ⟨rfl, rfl⟩
  try simp only [eb16, eb20, decide_eq_true_eq, decide_eq_false_iff_not, Bool.or_eq_true, Bool.and_eq_true, Bool.or_eq_false_iff, Bool.and_eq_false_imp, Bool.not_eq_true', Bool.not_eq_false', ne_eq, Decidable.not_not, Int.not_lt, Int.not_le, Bool.not_eq_true, Bool.not_eq_false] at h1
  have hok : frOk s := by unfold frOk; simp_all <;> omega
  rw [firstS_yes hok]
  obtain ⟨g1, g2, g3, g4, g5, g6⟩ := frOk_len hok
  refine AW.skip ?_
  refine SeqP.go ?_
  refine AW.seq ?_
  refine AW.drawD 15 0 rfl (by kernel_rfl) (by kernel_rfl) ?_
  refine SeqD.a rfl (fun _ => q_move (v := S _) rfl) ?_
  refine SeqD.a rfl (fun _ => q_move (v := .int _ _) rfl) ?_
  refine SeqD.a rfl (fun _ => q_addI rfl rfl (by omega)) ?_
  refine SeqD.a rfl (fun _ => q_sliceS Try.underlying9 rfl rfl rfl (by omega) (by omega) (by omega)) ?_
  refine SeqD.a rfl (fun _ => q_move (v := .int _ _) rfl) ?_
  refine SeqD.a rfl (fun _ => q_addI rfl rfl (by omega)) ?_
  refine SeqD.a rfl (fun _ => q_addI rfl rfl (by omega)) ?_
  refine SeqD.a rfl (fun _ => q_move (v := S _) rfl) ?_
  refine SeqD.a rfl (fun _ => q_move (v := .int _ _) rfl) ?_
  refine SeqD.a rfl (fun _ => q_addI rfl rfl (by omega)) ?_
  refine SeqD.a rfl (fun _ => q_move (v := .int _ _) rfl) ?_
  refine SeqD.a rfl (fun _ => q_addI rfl rfl (by omega)) ?_
  refine SeqD.a rfl (fun _ => q_addI rfl rfl (by omega)) ?_
  refine SeqD.a rfl (fun _ => q_sliceS Try.underlying9 rfl rfl rfl (by omega) (by omega) (by omega)) ?_
  refine SeqD.a rfl (fun _ => q_build (cells := #[S (frBody s), .int .i64 (4 + numB s + 32), S (frNext s)]) rfl (by kernel_rfl)) ?_
  refine SeqD.x rfl (s_alloc (z := .agg #[S [], .int .i64 0, S []]) (cs := [S [], .int .i64 0, S []]) hS1 (by kernel_rfl) rfl) ?_
  rintro _ H4 ⟨b7, rfl, hS4⟩
  clear hS1
  refine ⟨trivial, ?_⟩
  refine SeqR2.done ?_
  refine OpsW.ms (s_storeS (n := 3) hS4 at0 (by kernel_rfl) rfl rfl rfl (ones_all rfl) rfl) ?_
  rintro _ H5 ⟨rfl, hS5⟩
  clear hS4
  refine OpsW.nil ?_
  refine SeqP.go ?_
  refine AW.seq ?_
  refine AW.drawD 9 0 rfl (by kernel_rfl) (by kernel_rfl) ?_
  refine SeqD.b (by kernel_rfl) rfl (q_loadA0 (n := 3) (by kernel_rfl) rfl (hS5.blk at0) (by simp; done)) ?_
  refine SeqD.a rfl (fun _ => q_fieldAddr (sz := 0) Try.underlying74 rfl (by kernel_rfl) rfl) ?_
  refine SeqD.q rfl (q_load (v := S _) (by kernel_rfl) rfl (hS5.blk at0) rfl) ?_
  refine SeqD.a rfl (fun _ => q_move (v := S _) rfl) ?_
  refine SeqD.a rfl (fun _ => q_fieldAddr (sz := 0) Try.underlying74 rfl (by kernel_rfl) rfl) ?_
  refine SeqD.b (by kernel_rfl) rfl (q_load (v := S _) (by kernel_rfl) rfl (hS5.blk at0) rfl) ?_
  refine SeqD.a rfl (fun _ => q_cat rfl rfl (by omega)) ?_
  refine SeqD.a rfl (fun _ => o_call rfl Try.func56 rfl rfl (Sum256_con (by rw [List.length_append]; omega))) ?_
  refine SeqD.a rfl (fun _ => q_eqS rfl rfl) ?_
  refine SeqD.ms (s_storeS (n := 3) hS5 at1 (by kernel_rfl) rfl rfl rfl (ones_all rfl) rfl) ?_
  rintro _ H6 ⟨rfl, hS6⟩
  clear hS5
  refine ⟨⟨trivial, q_load (v := S _) (by kernel_rfl) rfl (hS6.blk at0) rfl⟩, ?_⟩
  refine SeqR2.done ?_
  refine OpsW.q rfl (q_assign (v := .bool _) rfl) ?_
  refine OpsW.nil ?_
  refine SeqP.go ?_
  refine AW.ret ?_
  refine RetP.mkc1 (m := 3) (v2 := .bool _) (H' := H) rfl rfl rfl (hS6.blk at1) (by simp; done) (by kernel_rfl) hS6.le ?_
  exact ⟨rfl, rfl⟩
theorem Mark_con {b tb mb : Nat} {x : StF} {who : List UInt8} {vs : Vals} (hb : H b = some (stBlk tb mb x)) (hmb : H mb = some (mpB (ents S vs))) (hV : Vec H 44 2 ((mgt vs who).getD nilV) (ofP x.st.L who).length (rowsV recC (ofP x.st.L who))) : Con Try.prog w0 18 #[.pointer (some ⟨b, 0, none⟩), S who] H (fun v H' => v = .int .i64 (mkP x.st.L who) ∧ H' = H) := by
  have hS0 : Sep H [] H := Sep.refl
  refine Con.intro Try.func18 rfl rfl ?_
  refine AW.seq ?_
  refine AW.region ?_
  refine OpsW.q rfl (q_assign (v := .int _ _) rfl) ?_
  refine OpsW.nil ?_
  refine SeqP.go ?_
  refine AW.seq ?_
  refine AW.seq ?_
  refine AW.region ?_
  refine OpsW.q rfl (q_move (v := .pointer _) rfl) ?_
  refine OpsW.q rfl (q_eqlP Try.underlying35 rfl rfl) ?_
  refine OpsW.nil ?_
  refine SeqP.go ?_
  refine AW.cond rfl (fun h0 => ?_) (fun h0 => ?_)
  ·
    exfalso
    try simp only [decide_eq_true_eq, decide_eq_false_iff_not, Bool.or_eq_true, Bool.and_eq_true, Bool.or_eq_false_iff, Bool.and_eq_false_imp, Bool.not_eq_true', Bool.not_eq_false', ne_eq, Decidable.not_not, Int.not_lt, Int.not_le, Bool.not_eq_true, Bool.not_eq_false] at h0
    first | contradiction | (simp at *; done) | simp_all
  try simp only [decide_eq_true_eq, decide_eq_false_iff_not, Bool.or_eq_true, Bool.and_eq_true, Bool.or_eq_false_iff, Bool.and_eq_false_imp, Bool.not_eq_true', Bool.not_eq_false', ne_eq, Decidable.not_not, Int.not_lt, Int.not_le, Bool.not_eq_true, Bool.not_eq_false] at h0
  refine AW.skip ?_
  refine SeqP.go ?_
  refine AW.seq ?_
  refine AW.region ?_
  refine OpsW.q rfl (q_move (v := .pointer _) rfl) ?_
  refine OpsW.q rfl (q_nilCheck rfl) ?_
  refine OpsW.q rfl (q_fieldAddr (sz := 0) Try.underlying85 rfl (by kernel_rfl) rfl) ?_
  refine OpsW.q rfl (q_load (v := .map _) (by kernel_rfl) rfl (hS0.old hb) rfl) ?_
  refine OpsW.q rfl (q_move (v := S _) rfl) ?_
  refine OpsW.q rfl (q_lookup (z := .slice none 0 0) Try.underlying52 (key_str Try.underlying9) (by kernel_rfl) rfl rfl (hS0.old hmb)) ?_
  refine OpsW.q rfl (q_lenVec Try.underlying46 rfl (Vec.le hV hS0.le)) ?_
  refine OpsW.q rfl (q_assign (v := .int _ _) rfl) ?_
  refine OpsW.nil ?_
  refine SeqP.go ?_
  refine AW.ret ?_
  refine RetP.mk1 (H' := H) (v1 := .int _ _) rfl rfl  hS0.le ?_
  exact ⟨rfl, rfl⟩
theorem Of_con {b tb mb : Nat} {x : StF} {who : List UInt8} {vs : Vals} (hb : H b = some (stBlk tb mb x)) (hmb : H mb = some (mpB (ents S vs))) (hV : Vec H 44 2 ((mgt vs who).getD nilV) (ofP x.st.L who).length (rowsV recC (ofP x.st.L who))) (hl : x.st.L.length ≤ 1000000000) : Con Try.prog w0 19 #[.pointer (some ⟨b, 0, none⟩), S who] H (fun v H' => Sep H [recV v (ofP x.st.L who)] H') := by
  have hS0 : Sep H [] H := Sep.refl
  have hol := ofP_len x.st.L who
  refine Con.intro Try.func19 rfl rfl ?_
  refine AW.seq ?_
  refine AW.region ?_
  refine OpsW.q rfl (q_assign (v := .slice _ _ _) rfl) ?_
  refine OpsW.nil ?_
  refine SeqP.go ?_
  refine AW.seq ?_
  refine AW.seq ?_
  refine AW.region ?_
  refine OpsW.q rfl (q_move (v := .pointer _) rfl) ?_
  refine OpsW.q rfl (q_eqlP Try.underlying35 rfl rfl) ?_
  refine OpsW.nil ?_
  refine SeqP.go ?_
  refine AW.cond rfl (fun h0 => ?_) (fun h0 => ?_)
  ·
    exfalso
    try simp only [decide_eq_true_eq, decide_eq_false_iff_not, Bool.or_eq_true, Bool.and_eq_true, Bool.or_eq_false_iff, Bool.and_eq_false_imp, Bool.not_eq_true', Bool.not_eq_false', ne_eq, Decidable.not_not, Int.not_lt, Int.not_le, Bool.not_eq_true, Bool.not_eq_false] at h0
    first | contradiction | (simp at *; done) | simp_all
  try simp only [decide_eq_true_eq, decide_eq_false_iff_not, Bool.or_eq_true, Bool.and_eq_true, Bool.or_eq_false_iff, Bool.and_eq_false_imp, Bool.not_eq_true', Bool.not_eq_false', ne_eq, Decidable.not_not, Int.not_lt, Int.not_le, Bool.not_eq_true, Bool.not_eq_false] at h0
  refine AW.skip ?_
  refine SeqP.go ?_
  refine AW.seq ?_
  refine AW.region ?_
  refine OpsW.q rfl (q_move (v := .pointer _) rfl) ?_
  refine OpsW.q rfl (q_nilCheck rfl) ?_
  refine OpsW.q rfl (q_fieldAddr (sz := 0) Try.underlying85 rfl (by kernel_rfl) rfl) ?_
  refine OpsW.q rfl (q_load (v := .map _) (by kernel_rfl) rfl (hS0.old hb) rfl) ?_
  refine OpsW.q rfl (q_move (v := S _) rfl) ?_
  refine OpsW.q rfl (q_lookup (z := .slice none 0 0) Try.underlying52 (key_str Try.underlying9) (by kernel_rfl) rfl rfl (hS0.old hmb)) ?_
  refine OpsW.m rfl (s_append0 (sz := 2) (by_ := 24) (z := .agg #[.int .i64 0, S []]) hS0 Try.underlying46 (by kernel_rfl) (by kernel_rfl) (by kernel_rfl) rfl (by kernel_rfl) rfl rfl (src_vec (Vec.le hV hS0.le) (fun u hu => by obtain ⟨r, _, hr⟩ := List.mem_flatMap.1 hu; exact recC_one r u hr)) (by unfold maxLen; omega) (by omega)) ?_
  rintro v13 H1 hS1
  clear hS0
  refine OpsW.q rfl (q_assign (v := v13) rfl) ?_
  refine OpsW.nil ?_
  refine SeqP.go ?_
  refine AW.ret ?_
  refine RetP.mk1 (H' := H1) (v1 := v13) rfl rfl  (Hp.le_refl _) ?_
  simpa using hS1
theorem Head_con {b tb mb : Nat} {x : StF} (hb : H b = some (stBlk tb mb x)) : Con Try.prog w0 20 #[.pointer (some ⟨b, 0, none⟩)] H (fun v H' => v = S x.st.h ∧ H' = H) := by
  have hS0 : Sep H [] H := Sep.refl
  refine Con.intro Try.func20 rfl rfl ?_
  refine AW.seq ?_
  refine AW.region ?_
  refine OpsW.q rfl (q_assign (v := S _) rfl) ?_
  refine OpsW.nil ?_
  refine SeqP.go ?_
  refine AW.seq ?_
  refine AW.seq ?_
  refine AW.region ?_
  refine OpsW.q rfl (q_move (v := .pointer _) rfl) ?_
  refine OpsW.q rfl (q_eqlP Try.underlying35 rfl rfl) ?_
  refine OpsW.nil ?_
  refine SeqP.go ?_
  refine AW.cond rfl (fun h0 => ?_) (fun h0 => ?_)
  ·
    exfalso
    try simp only [decide_eq_true_eq, decide_eq_false_iff_not, Bool.or_eq_true, Bool.and_eq_true, Bool.or_eq_false_iff, Bool.and_eq_false_imp, Bool.not_eq_true', Bool.not_eq_false', ne_eq, Decidable.not_not, Int.not_lt, Int.not_le, Bool.not_eq_true, Bool.not_eq_false] at h0
    first | contradiction | (simp at *; done) | simp_all
  try simp only [decide_eq_true_eq, decide_eq_false_iff_not, Bool.or_eq_true, Bool.and_eq_true, Bool.or_eq_false_iff, Bool.and_eq_false_imp, Bool.not_eq_true', Bool.not_eq_false', ne_eq, Decidable.not_not, Int.not_lt, Int.not_le, Bool.not_eq_true, Bool.not_eq_false] at h0
  refine AW.skip ?_
  refine SeqP.go ?_
  refine AW.seq ?_
  refine AW.region ?_
  refine OpsW.q rfl (q_move (v := .pointer _) rfl) ?_
  refine OpsW.q rfl (q_nilCheck rfl) ?_
  refine OpsW.q rfl (q_fieldAddr (sz := 0) Try.underlying85 rfl (by kernel_rfl) rfl) ?_
  refine OpsW.q rfl (q_load (v := S _) (by kernel_rfl) rfl (hS0.old hb) rfl) ?_
  refine OpsW.q rfl (q_assign (v := S _) rfl) ?_
  refine OpsW.nil ?_
  refine SeqP.go ?_
  refine AW.ret ?_
  refine RetP.mk1 (H' := H) (v1 := S _) rfl rfl  hS0.le ?_
  exact ⟨rfl, rfl⟩
theorem takeS_s {b tb mb : Nat} {x : StF} {body nx : List UInt8} {sz : Int} (hS0 : Sep H0 [.blk b (stBlk tb mb x), .pred (stM mb x.st.L)] H) (hb : 36 ≤ body.length) (hbm : body.length ≤ 1099511627776) (hl : x.st.L.length ≤ 1000000000) : Con Try.prog w0 44 #[.pointer (some ⟨b, 0, none⟩), .agg #[S body, .int .i64 sz, S nx]] H (fun v H' => v = .bool (takeS x.st body nx).1 ∧ Sep H0 [.blk b (stBlk tb mb ⟨(takeS x.st body nx).2, x.dd⟩), .pred (stM mb (takeS x.st body nx).2.L)] H') := by
  obtain ⟨vs, ov, hov, hnd, hno, hSo⟩ := st_open (tWho body) (Sep.bring del1 hS0)
  have hS1 : Sep H0 [.blk b ⟨[.pointer (some ⟨tb, 0, none⟩), S x.st.h, .map (some mb), .bool x.dd], 4, 85⟩, .blk mb (mpB (ents S vs)), .vec ov 44 2 (ofP x.st.L (tWho body)).length (rowsV recC (ofP x.st.L (tWho body))), .pred (stEx x.st.L vs (tWho body))] H := Sep.bring del3 hSo
  clear hSo hS0
  have hol := ofP_len x.st.L (tWho body)
  have hmk : 0 ≤ mkP x.st.L (tWho body) ∧ mkP x.st.L (tWho body) ≤ 1000000000 := by unfold mkP; omega
  have hnr := numB_range (body.drop (Int.toNat 32))
  refine Con.intro Try.func44 rfl rfl ?_
  refine AW.seq ?_
  refine AW.region ?_
  refine OpsW.m rfl (s_box (v := .agg _) hS1 rfl rfl) ?_
  rintro _ H1 ⟨b3, rfl, hS1x⟩
  clear hS1
  refine OpsW.q rfl (q_assign (v := .bool _) rfl) ?_
  refine OpsW.nil ?_
  refine SeqP.go ?_
  refine AW.seq ?_
  refine AW.drawD 11 1 rfl (by kernel_rfl) (by kernel_rfl) ?_
  refine SeqD.a rfl (fun _ => q_fieldAddr (sz := 0) Try.underlying74 rfl (by kernel_rfl) rfl) ?_
  refine SeqD.q rfl (q_load (v := S _) (by kernel_rfl) rfl (hS1x.blk at0) rfl) ?_
  refine SeqD.a rfl (fun _ => q_sliceS_hi Try.underlying9 rfl rfl (by omega) (by omega)) ?_
  rw [show body.take (Int.toNat 32) = tWho body from rfl]
  refine SeqD.a rfl (fun _ => q_fieldAddr (sz := 0) Try.underlying74 rfl (by kernel_rfl) rfl) ?_
  refine SeqD.q rfl (q_load (v := S _) (by kernel_rfl) rfl (hS1x.blk at0) rfl) ?_
  refine SeqD.a rfl (fun _ => q_sliceS_lo Try.underlying9 rfl rfl (by omega) (by omega)) ?_
  refine SeqD.a rfl (fun _ => o_call rfl Try.func55 rfl rfl (numberS_con (by rw [List.length_drop]; show 4 ≤ body.length - 32; omega))) ?_
  rw [show numB (body.drop (Int.toNat 32)) = tSeq body from rfl]
  refine SeqD.a rfl (fun _ => q_fieldAddr (sz := 0) Try.underlying74 rfl (by kernel_rfl) rfl) ?_
  refine SeqD.q rfl (q_load (v := S _) (by kernel_rfl) rfl (hS1x.blk at0) rfl) ?_
  refine SeqD.a rfl (fun _ => q_sliceS_lo Try.underlying9 rfl rfl (by omega) (by omega)) ?_
  rw [show body.drop (Int.toNat 36) = tDat body from rfl]
  refine SeqD.a rfl (fun _ => q_build (cells := #[.int .i64 (tSeq body), S (tDat body)]) rfl (by kernel_rfl)) ?_
  refine SeqD.x rfl (s_alloc (z := .agg #[.int .i64 0, S []]) (cs := [.int .i64 0, S []]) hS1x (by kernel_rfl) rfl) ?_
  rintro _ H2 ⟨b6, rfl, hS2⟩
  clear hS1x
  refine ⟨⟨⟨⟨trivial, q_load (v := S _) (by kernel_rfl) rfl (hS2.blk at1) rfl⟩, q_load (v := S _) (by kernel_rfl) rfl (hS2.blk at1) rfl⟩, q_load (v := S _) (by kernel_rfl) rfl (hS2.blk at1) rfl⟩, ?_⟩
  refine SeqR2.q rfl (q_assign (v := S _) rfl) ?_
  refine SeqR2.done ?_
  refine OpsW.ms (s_storeS (n := 2) hS2 at0 (by kernel_rfl) rfl rfl rfl (ones_all rfl) rfl) ?_
  rintro _ H3 ⟨rfl, hS3⟩
  clear hS2
  refine OpsW.nil ?_
  refine SeqP.go ?_
  refine AW.seq ?_
  refine AW.seq ?_
  refine AW.drawK [] 6 rfl (by kernel_rfl) ?_
  refine SeqK.q rfl (q_fieldAddr (sz := 0) Try.underlying44 rfl (by kernel_rfl) rfl) ?_
  refine SeqK.q rfl (q_load (v := .int _ _) (by kernel_rfl) rfl (hS3.blk at0) rfl) ?_
  refine SeqK.q rfl (q_move (v := .pointer _) rfl) ?_
  refine SeqK.q rfl (q_move (v := S _) rfl) ?_
  refine SeqK.q rfl (o_call rfl Try.func18 rfl rfl (Mark_con (vs := vs) (x := x) (hS3.blk (by first | exact at2 | exact at1)) (hS3.blk (by first | exact at3 | exact at2)) (by rw [hov]; exact hS3.vec (by first | exact at4 | exact at3)))) ?_
  refine SeqK.q rfl (q_addI rfl rfl (by omega)) ?_
  refine SeqK.done ?_
  refine OpsW.q rfl (q_neq rfl rfl) ?_
  refine OpsW.nil ?_
  refine SeqP.go ?_
  refine AW.cond rfl (fun h0 => ?_) (fun h0 => ?_)
  ·
    try simp only [decide_eq_true_eq, decide_eq_false_iff_not, Bool.or_eq_true, Bool.and_eq_true, Bool.or_eq_false_iff, Bool.and_eq_false_imp, Bool.not_eq_true', Bool.not_eq_false', ne_eq, Decidable.not_not, Int.not_lt, Int.not_le, Bool.not_eq_true, Bool.not_eq_false] at h0
    rw [takeS_no (by simp_all)]
    refine AW.seq ?_
    refine AW.region ?_
    refine OpsW.q rfl (q_assign (v := .bool _) rfl) ?_
    refine OpsW.nil ?_
    refine SeqP.go ?_
    refine AW.ret ?_
    refine SeqP.ret ?_
    refine RetP.mk1 (H' := _) (v1 := .bool _) rfl rfl  (Hp.le_refl _) ?_
    refine ⟨rfl, ?_⟩
    exact Sep.under hS3.tail.tail fun hG => st_shut hov hnd hno hG
  try simp only [decide_eq_true_eq, decide_eq_false_iff_not, Bool.or_eq_true, Bool.and_eq_true, Bool.or_eq_false_iff, Bool.and_eq_false_imp, Bool.not_eq_true', Bool.not_eq_false', ne_eq, Decidable.not_not, Int.not_lt, Int.not_le, Bool.not_eq_true, Bool.not_eq_false] at h0
  have hseq : tSeq body = mkP x.st.L (tWho body) + 1 := by simp_all
  rw [takeS_yes hseq]
  refine AW.skip ?_
  refine SeqP.go ?_
  refine AW.cut (fun e_ H_ => ∃ (ov2 : Value) (e0 : Env), (True) ∧ e_ = upds e0 [(0, .pointer (some ⟨b, 0, none⟩)), (3, .pointer (some ⟨b3, 0, none⟩))] ∧ Sep H0 [.blk b3 ⟨[S body, .int .i64 sz, S nx], 3, 74⟩, .blk b ⟨[.pointer (some ⟨tb, 0, none⟩), S x.st.h, .map (some mb), .bool x.dd], 4, 85⟩, .blk mb (mpB (ents S ((mst vs (tWho body) ov2)))), .vec ov2 44 2 ((ofP (x.st.L ++ ([⟨tWho body, tSeq body, tDat body⟩] : OneL)) (tWho body)).length) (rowsV recC (ofP (x.st.L ++ ([⟨tWho body, tSeq body, tDat body⟩] : OneL)) (tWho body))), .pred (stEx x.st.L vs (tWho body))] H_) ?_ ?_
  ·
    refine AW.steps rfl 15 rfl ?_
    refine AnyW.first 0 rfl (by kernel_rfl) (by kernel_rfl) (by kernel_rfl) rfl (dst_lt rfl) (v_move (v := .pointer _) rfl) ?_
    refine AnyW.first 1 rfl (by kernel_rfl) (by kernel_rfl) (by kernel_rfl) rfl (dst_lt rfl) (v_nilCheck rfl) ?_
    refine AnyW.first 2 rfl (by kernel_rfl) (by kernel_rfl) (by kernel_rfl) rfl (dst_lt rfl) (v_fieldAddr (sz := 0) Try.underlying85 rfl (by kernel_rfl) rfl) ?_
    refine AnyW.first 4 rfl (by kernel_rfl) (by kernel_rfl) (by kernel_rfl) rfl (dst_lt rfl) (v_move (v := S _) rfl) ?_
    refine AnyW.first 5 rfl (by kernel_rfl) (by kernel_rfl) (by kernel_rfl) rfl (dst_lt rfl) (v_move (v := .pointer _) rfl) ?_
    refine AnyW.first 6 rfl (by kernel_rfl) (by kernel_rfl) (by kernel_rfl) rfl (dst_lt rfl) (v_nilCheck rfl) ?_
    refine AnyW.first 7 rfl (by kernel_rfl) (by kernel_rfl) (by kernel_rfl) rfl (dst_lt rfl) (v_fieldAddr (sz := 0) Try.underlying85 rfl (by kernel_rfl) rfl) ?_
    refine AnyW.first 9 rfl (by kernel_rfl) (by kernel_rfl) (by kernel_rfl) rfl (dst_lt rfl) (v_move (v := S _) rfl) ?_
    refine AnyW.three 3 8 11 rfl rfl rfl (by kernel_rfl) rfl rfl rfl (dst_lt rfl) (dst_lt rfl) (dst_lt rfl) (q_load (v := .map _) (by kernel_rfl) rfl (hS3.blk at2) rfl) (q_load (v := .map _) (by kernel_rfl) rfl (hS3.blk at2) rfl) (q_loadA0 (n := 2) (by kernel_rfl) rfl (hS3.blk at0) (by simp; done)) ?_ ?_ ?_
    ·
      rintro _ _ ⟨rfl, rfl⟩
      refine AnyW.two 8 11 rfl rfl (by kernel_rfl) rfl rfl (dst_lt rfl) (dst_lt rfl) (q_load (v := .map _) (by kernel_rfl) rfl (hS3.blk at2) rfl) (q_loadA0 (n := 2) (by kernel_rfl) rfl (hS3.blk at0) (by simp; done)) ?_ ?_
      ·
        rintro _ _ ⟨rfl, rfl⟩
        refine AnyW.two 10 11 rfl rfl (by kernel_rfl) rfl rfl (dst_lt rfl) (dst_lt rfl) (q_lookup (z := .slice none 0 0) Try.underlying52 (key_str Try.underlying9) (by kernel_rfl) rfl rfl (hS3.blk at3)) (q_loadA0 (n := 2) (by kernel_rfl) rfl (hS3.blk at0) (by simp; done)) ?_ ?_
        ·
          rintro _ _ ⟨rfl, rfl⟩
          rw [hov]
          refine AnyW.onlyQ 11 rfl (by kernel_rfl) rfl (dst_lt rfl) (q_loadA0 (n := 2) (by kernel_rfl) rfl (hS3.blk at0) (by simp; done)) ?_
          refine AnyW.only 12 rfl (by kernel_rfl) rfl (dst_lt rfl) (s_buildSlice2 (z := .agg #[.int .i64 0, S []]) hS3 Try.underlying46 (by kernel_rfl) (by kernel_rfl) rfl) ?_
          rintro v37 H4 hS4
          clear hS3
          refine AnyW.only 13 rfl (by kernel_rfl) rfl (dst_lt rfl) (s_append (sz := 2) (by_ := 24) (z := .agg #[.int .i64 0, S []]) hS4 at5 Try.underlying46 (by kernel_rfl) (by kernel_rfl) (by kernel_rfl) rfl (by kernel_rfl) rfl rfl (src_vec (hS4.vec at0) (fun u hu => recC_one ⟨tSeq body, tDat body⟩ u hu)) (by unfold maxLen; omega) (by omega)) ?_
          rintro v38 H5 hS5
          clear hS4
          replace hS5 := hS5.del del0
          refine AnyW.only 14 rfl (by kernel_rfl) rfl rfl (s_mapUpdate (u := v38) hS5 at3 Try.underlying52 (key_str Try.underlying9) rfl rfl rfl) ?_
          rintro _ H6 ⟨rfl, hS6⟩
          clear hS5
          refine AnyW.done (by kernel_rfl) ?_
          replace hS6 := hS6.del del0
          exact CutP.go ⟨v38, _, trivial, Slots.eq ⟨(by rfl), (by rfl),  trivial⟩, (by rw [ofP_snoc, if_pos rfl, List.length_append, rowsV_append]; exact hS6)⟩
        ·
          rintro _ _ ⟨rfl, rfl⟩
          refine AnyW.two 10 12 rfl rfl (by kernel_rfl) rfl rfl (dst_lt rfl) (dst_lt rfl) (q_lookup (z := .slice none 0 0) Try.underlying52 (key_str Try.underlying9) (by kernel_rfl) rfl rfl (hS3.blk at3)) (s_buildSlice2 (z := .agg #[.int .i64 0, S []]) hS3 Try.underlying46 (by kernel_rfl) (by kernel_rfl) rfl) ?_ ?_
          ·
            rintro _ _ ⟨rfl, rfl⟩
            rw [hov]
            refine AnyW.only 12 rfl (by kernel_rfl) rfl (dst_lt rfl) (s_buildSlice2 (z := .agg #[.int .i64 0, S []]) hS3 Try.underlying46 (by kernel_rfl) (by kernel_rfl) rfl) ?_
            rintro v37 H7 hS7
            clear hS3
            refine AnyW.only 13 rfl (by kernel_rfl) rfl (dst_lt rfl) (s_append (sz := 2) (by_ := 24) (z := .agg #[.int .i64 0, S []]) hS7 at5 Try.underlying46 (by kernel_rfl) (by kernel_rfl) (by kernel_rfl) rfl (by kernel_rfl) rfl rfl (src_vec (hS7.vec at0) (fun u hu => recC_one ⟨tSeq body, tDat body⟩ u hu)) (by unfold maxLen; omega) (by omega)) ?_
            rintro v38 H8 hS8
            clear hS7
            replace hS8 := hS8.del del0
            refine AnyW.only 14 rfl (by kernel_rfl) rfl rfl (s_mapUpdate (u := v38) hS8 at3 Try.underlying52 (key_str Try.underlying9) rfl rfl rfl) ?_
            rintro _ H9 ⟨rfl, hS9⟩
            clear hS8
            refine AnyW.done (by kernel_rfl) ?_
            replace hS9 := hS9.del del0
            exact CutP.go ⟨v38, _, trivial, Slots.eq ⟨(by rfl), (by rfl),  trivial⟩, (by rw [ofP_snoc, if_pos rfl, List.length_append, rowsV_append]; exact hS9)⟩
          ·
            rintro v37 H10 hS10
            clear hS3
            refine AnyW.onlyQ 10 rfl (by kernel_rfl) rfl (dst_lt rfl) (q_lookup (z := .slice none 0 0) Try.underlying52 (key_str Try.underlying9) (by kernel_rfl) rfl rfl (hS10.blk at4)) ?_
            rw [hov]
            refine AnyW.only 13 rfl (by kernel_rfl) rfl (dst_lt rfl) (s_append (sz := 2) (by_ := 24) (z := .agg #[.int .i64 0, S []]) hS10 at5 Try.underlying46 (by kernel_rfl) (by kernel_rfl) (by kernel_rfl) rfl (by kernel_rfl) rfl rfl (src_vec (hS10.vec at0) (fun u hu => recC_one ⟨tSeq body, tDat body⟩ u hu)) (by unfold maxLen; omega) (by omega)) ?_
            rintro v38 H11 hS11
            clear hS10
            replace hS11 := hS11.del del0
            refine AnyW.only 14 rfl (by kernel_rfl) rfl rfl (s_mapUpdate (u := v38) hS11 at3 Try.underlying52 (key_str Try.underlying9) rfl rfl rfl) ?_
            rintro _ H12 ⟨rfl, hS12⟩
            clear hS11
            refine AnyW.done (by kernel_rfl) ?_
            replace hS12 := hS12.del del0
            exact CutP.go ⟨v38, _, trivial, Slots.eq ⟨(by rfl), (by rfl),  trivial⟩, (by rw [ofP_snoc, if_pos rfl, List.length_append, rowsV_append]; exact hS12)⟩
      ·
        rintro _ _ ⟨rfl, rfl⟩
        refine AnyW.two 8 12 rfl rfl (by kernel_rfl) rfl rfl (dst_lt rfl) (dst_lt rfl) (q_load (v := .map _) (by kernel_rfl) rfl (hS3.blk at2) rfl) (s_buildSlice2 (z := .agg #[.int .i64 0, S []]) hS3 Try.underlying46 (by kernel_rfl) (by kernel_rfl) rfl) ?_ ?_
        ·
          rintro _ _ ⟨rfl, rfl⟩
          refine AnyW.two 10 12 rfl rfl (by kernel_rfl) rfl rfl (dst_lt rfl) (dst_lt rfl) (q_lookup (z := .slice none 0 0) Try.underlying52 (key_str Try.underlying9) (by kernel_rfl) rfl rfl (hS3.blk at3)) (s_buildSlice2 (z := .agg #[.int .i64 0, S []]) hS3 Try.underlying46 (by kernel_rfl) (by kernel_rfl) rfl) ?_ ?_
          ·
            rintro _ _ ⟨rfl, rfl⟩
            rw [hov]
            refine AnyW.only 12 rfl (by kernel_rfl) rfl (dst_lt rfl) (s_buildSlice2 (z := .agg #[.int .i64 0, S []]) hS3 Try.underlying46 (by kernel_rfl) (by kernel_rfl) rfl) ?_
            rintro v37 H13 hS13
            clear hS3
            refine AnyW.only 13 rfl (by kernel_rfl) rfl (dst_lt rfl) (s_append (sz := 2) (by_ := 24) (z := .agg #[.int .i64 0, S []]) hS13 at5 Try.underlying46 (by kernel_rfl) (by kernel_rfl) (by kernel_rfl) rfl (by kernel_rfl) rfl rfl (src_vec (hS13.vec at0) (fun u hu => recC_one ⟨tSeq body, tDat body⟩ u hu)) (by unfold maxLen; omega) (by omega)) ?_
            rintro v38 H14 hS14
            clear hS13
            replace hS14 := hS14.del del0
            refine AnyW.only 14 rfl (by kernel_rfl) rfl rfl (s_mapUpdate (u := v38) hS14 at3 Try.underlying52 (key_str Try.underlying9) rfl rfl rfl) ?_
            rintro _ H15 ⟨rfl, hS15⟩
            clear hS14
            refine AnyW.done (by kernel_rfl) ?_
            replace hS15 := hS15.del del0
            exact CutP.go ⟨v38, _, trivial, Slots.eq ⟨(by rfl), (by rfl),  trivial⟩, (by rw [ofP_snoc, if_pos rfl, List.length_append, rowsV_append]; exact hS15)⟩
          ·
            rintro v37 H16 hS16
            clear hS3
            refine AnyW.onlyQ 10 rfl (by kernel_rfl) rfl (dst_lt rfl) (q_lookup (z := .slice none 0 0) Try.underlying52 (key_str Try.underlying9) (by kernel_rfl) rfl rfl (hS16.blk at4)) ?_
            rw [hov]
            refine AnyW.only 13 rfl (by kernel_rfl) rfl (dst_lt rfl) (s_append (sz := 2) (by_ := 24) (z := .agg #[.int .i64 0, S []]) hS16 at5 Try.underlying46 (by kernel_rfl) (by kernel_rfl) (by kernel_rfl) rfl (by kernel_rfl) rfl rfl (src_vec (hS16.vec at0) (fun u hu => recC_one ⟨tSeq body, tDat body⟩ u hu)) (by unfold maxLen; omega) (by omega)) ?_
            rintro v38 H17 hS17
            clear hS16
            replace hS17 := hS17.del del0
            refine AnyW.only 14 rfl (by kernel_rfl) rfl rfl (s_mapUpdate (u := v38) hS17 at3 Try.underlying52 (key_str Try.underlying9) rfl rfl rfl) ?_
            rintro _ H18 ⟨rfl, hS18⟩
            clear hS17
            refine AnyW.done (by kernel_rfl) ?_
            replace hS18 := hS18.del del0
            exact CutP.go ⟨v38, _, trivial, Slots.eq ⟨(by rfl), (by rfl),  trivial⟩, (by rw [ofP_snoc, if_pos rfl, List.length_append, rowsV_append]; exact hS18)⟩
        ·
          rintro v37 H19 hS19
          clear hS3
          refine AnyW.onlyQ 8 rfl (by kernel_rfl) rfl (dst_lt rfl) (q_load (v := .map _) (by kernel_rfl) rfl (hS19.blk at3) rfl) ?_
          refine AnyW.onlyQ 10 rfl (by kernel_rfl) rfl (dst_lt rfl) (q_lookup (z := .slice none 0 0) Try.underlying52 (key_str Try.underlying9) (by kernel_rfl) rfl rfl (hS19.blk at4)) ?_
          rw [hov]
          refine AnyW.only 13 rfl (by kernel_rfl) rfl (dst_lt rfl) (s_append (sz := 2) (by_ := 24) (z := .agg #[.int .i64 0, S []]) hS19 at5 Try.underlying46 (by kernel_rfl) (by kernel_rfl) (by kernel_rfl) rfl (by kernel_rfl) rfl rfl (src_vec (hS19.vec at0) (fun u hu => recC_one ⟨tSeq body, tDat body⟩ u hu)) (by unfold maxLen; omega) (by omega)) ?_
          rintro v38 H20 hS20
          clear hS19
          replace hS20 := hS20.del del0
          refine AnyW.only 14 rfl (by kernel_rfl) rfl rfl (s_mapUpdate (u := v38) hS20 at3 Try.underlying52 (key_str Try.underlying9) rfl rfl rfl) ?_
          rintro _ H21 ⟨rfl, hS21⟩
          clear hS20
          refine AnyW.done (by kernel_rfl) ?_
          replace hS21 := hS21.del del0
          exact CutP.go ⟨v38, _, trivial, Slots.eq ⟨(by rfl), (by rfl),  trivial⟩, (by rw [ofP_snoc, if_pos rfl, List.length_append, rowsV_append]; exact hS21)⟩
    ·
      rintro _ _ ⟨rfl, rfl⟩
      refine AnyW.three 3 10 11 rfl rfl rfl (by kernel_rfl) rfl rfl rfl (dst_lt rfl) (dst_lt rfl) (dst_lt rfl) (q_load (v := .map _) (by kernel_rfl) rfl (hS3.blk at2) rfl) (q_lookup (z := .slice none 0 0) Try.underlying52 (key_str Try.underlying9) (by kernel_rfl) rfl rfl (hS3.blk at3)) (q_loadA0 (n := 2) (by kernel_rfl) rfl (hS3.blk at0) (by simp; done)) ?_ ?_ ?_
      ·
        rintro _ _ ⟨rfl, rfl⟩
        refine AnyW.two 10 11 rfl rfl (by kernel_rfl) rfl rfl (dst_lt rfl) (dst_lt rfl) (q_lookup (z := .slice none 0 0) Try.underlying52 (key_str Try.underlying9) (by kernel_rfl) rfl rfl (hS3.blk at3)) (q_loadA0 (n := 2) (by kernel_rfl) rfl (hS3.blk at0) (by simp; done)) ?_ ?_
        ·
          rintro _ _ ⟨rfl, rfl⟩
          rw [hov]
          refine AnyW.onlyQ 11 rfl (by kernel_rfl) rfl (dst_lt rfl) (q_loadA0 (n := 2) (by kernel_rfl) rfl (hS3.blk at0) (by simp; done)) ?_
          refine AnyW.only 12 rfl (by kernel_rfl) rfl (dst_lt rfl) (s_buildSlice2 (z := .agg #[.int .i64 0, S []]) hS3 Try.underlying46 (by kernel_rfl) (by kernel_rfl) rfl) ?_
          rintro v37 H22 hS22
          clear hS3
          refine AnyW.only 13 rfl (by kernel_rfl) rfl (dst_lt rfl) (s_append (sz := 2) (by_ := 24) (z := .agg #[.int .i64 0, S []]) hS22 at5 Try.underlying46 (by kernel_rfl) (by kernel_rfl) (by kernel_rfl) rfl (by kernel_rfl) rfl rfl (src_vec (hS22.vec at0) (fun u hu => recC_one ⟨tSeq body, tDat body⟩ u hu)) (by unfold maxLen; omega) (by omega)) ?_
          rintro v38 H23 hS23
          clear hS22
          replace hS23 := hS23.del del0
          refine AnyW.only 14 rfl (by kernel_rfl) rfl rfl (s_mapUpdate (u := v38) hS23 at3 Try.underlying52 (key_str Try.underlying9) rfl rfl rfl) ?_
          rintro _ H24 ⟨rfl, hS24⟩
          clear hS23
          refine AnyW.done (by kernel_rfl) ?_
          replace hS24 := hS24.del del0
          exact CutP.go ⟨v38, _, trivial, Slots.eq ⟨(by rfl), (by rfl),  trivial⟩, (by rw [ofP_snoc, if_pos rfl, List.length_append, rowsV_append]; exact hS24)⟩
        ·
          rintro _ _ ⟨rfl, rfl⟩
          refine AnyW.two 10 12 rfl rfl (by kernel_rfl) rfl rfl (dst_lt rfl) (dst_lt rfl) (q_lookup (z := .slice none 0 0) Try.underlying52 (key_str Try.underlying9) (by kernel_rfl) rfl rfl (hS3.blk at3)) (s_buildSlice2 (z := .agg #[.int .i64 0, S []]) hS3 Try.underlying46 (by kernel_rfl) (by kernel_rfl) rfl) ?_ ?_
          ·
            rintro _ _ ⟨rfl, rfl⟩
            rw [hov]
            refine AnyW.only 12 rfl (by kernel_rfl) rfl (dst_lt rfl) (s_buildSlice2 (z := .agg #[.int .i64 0, S []]) hS3 Try.underlying46 (by kernel_rfl) (by kernel_rfl) rfl) ?_
            rintro v37 H25 hS25
            clear hS3
            refine AnyW.only 13 rfl (by kernel_rfl) rfl (dst_lt rfl) (s_append (sz := 2) (by_ := 24) (z := .agg #[.int .i64 0, S []]) hS25 at5 Try.underlying46 (by kernel_rfl) (by kernel_rfl) (by kernel_rfl) rfl (by kernel_rfl) rfl rfl (src_vec (hS25.vec at0) (fun u hu => recC_one ⟨tSeq body, tDat body⟩ u hu)) (by unfold maxLen; omega) (by omega)) ?_
            rintro v38 H26 hS26
            clear hS25
            replace hS26 := hS26.del del0
            refine AnyW.only 14 rfl (by kernel_rfl) rfl rfl (s_mapUpdate (u := v38) hS26 at3 Try.underlying52 (key_str Try.underlying9) rfl rfl rfl) ?_
            rintro _ H27 ⟨rfl, hS27⟩
            clear hS26
            refine AnyW.done (by kernel_rfl) ?_
            replace hS27 := hS27.del del0
            exact CutP.go ⟨v38, _, trivial, Slots.eq ⟨(by rfl), (by rfl),  trivial⟩, (by rw [ofP_snoc, if_pos rfl, List.length_append, rowsV_append]; exact hS27)⟩
          ·
            rintro v37 H28 hS28
            clear hS3
            refine AnyW.onlyQ 10 rfl (by kernel_rfl) rfl (dst_lt rfl) (q_lookup (z := .slice none 0 0) Try.underlying52 (key_str Try.underlying9) (by kernel_rfl) rfl rfl (hS28.blk at4)) ?_
            rw [hov]
            refine AnyW.only 13 rfl (by kernel_rfl) rfl (dst_lt rfl) (s_append (sz := 2) (by_ := 24) (z := .agg #[.int .i64 0, S []]) hS28 at5 Try.underlying46 (by kernel_rfl) (by kernel_rfl) (by kernel_rfl) rfl (by kernel_rfl) rfl rfl (src_vec (hS28.vec at0) (fun u hu => recC_one ⟨tSeq body, tDat body⟩ u hu)) (by unfold maxLen; omega) (by omega)) ?_
            rintro v38 H29 hS29
            clear hS28
            replace hS29 := hS29.del del0
            refine AnyW.only 14 rfl (by kernel_rfl) rfl rfl (s_mapUpdate (u := v38) hS29 at3 Try.underlying52 (key_str Try.underlying9) rfl rfl rfl) ?_
            rintro _ H30 ⟨rfl, hS30⟩
            clear hS29
            refine AnyW.done (by kernel_rfl) ?_
            replace hS30 := hS30.del del0
            exact CutP.go ⟨v38, _, trivial, Slots.eq ⟨(by rfl), (by rfl),  trivial⟩, (by rw [ofP_snoc, if_pos rfl, List.length_append, rowsV_append]; exact hS30)⟩
      ·
        rintro _ _ ⟨rfl, rfl⟩
        rw [hov]
        refine AnyW.two 3 11 rfl rfl (by kernel_rfl) rfl rfl (dst_lt rfl) (dst_lt rfl) (q_load (v := .map _) (by kernel_rfl) rfl (hS3.blk at2) rfl) (q_loadA0 (n := 2) (by kernel_rfl) rfl (hS3.blk at0) (by simp; done)) ?_ ?_
        ·
          rintro _ _ ⟨rfl, rfl⟩
          refine AnyW.onlyQ 11 rfl (by kernel_rfl) rfl (dst_lt rfl) (q_loadA0 (n := 2) (by kernel_rfl) rfl (hS3.blk at0) (by simp; done)) ?_
          refine AnyW.only 12 rfl (by kernel_rfl) rfl (dst_lt rfl) (s_buildSlice2 (z := .agg #[.int .i64 0, S []]) hS3 Try.underlying46 (by kernel_rfl) (by kernel_rfl) rfl) ?_
          rintro v37 H31 hS31
          clear hS3
          refine AnyW.only 13 rfl (by kernel_rfl) rfl (dst_lt rfl) (s_append (sz := 2) (by_ := 24) (z := .agg #[.int .i64 0, S []]) hS31 at5 Try.underlying46 (by kernel_rfl) (by kernel_rfl) (by kernel_rfl) rfl (by kernel_rfl) rfl rfl (src_vec (hS31.vec at0) (fun u hu => recC_one ⟨tSeq body, tDat body⟩ u hu)) (by unfold maxLen; omega) (by omega)) ?_
          rintro v38 H32 hS32
          clear hS31
          replace hS32 := hS32.del del0
          refine AnyW.only 14 rfl (by kernel_rfl) rfl rfl (s_mapUpdate (u := v38) hS32 at3 Try.underlying52 (key_str Try.underlying9) rfl rfl rfl) ?_
          rintro _ H33 ⟨rfl, hS33⟩
          clear hS32
          refine AnyW.done (by kernel_rfl) ?_
          replace hS33 := hS33.del del0
          exact CutP.go ⟨v38, _, trivial, Slots.eq ⟨(by rfl), (by rfl),  trivial⟩, (by rw [ofP_snoc, if_pos rfl, List.length_append, rowsV_append]; exact hS33)⟩
        ·
          rintro _ _ ⟨rfl, rfl⟩
          refine AnyW.two 3 12 rfl rfl (by kernel_rfl) rfl rfl (dst_lt rfl) (dst_lt rfl) (q_load (v := .map _) (by kernel_rfl) rfl (hS3.blk at2) rfl) (s_buildSlice2 (z := .agg #[.int .i64 0, S []]) hS3 Try.underlying46 (by kernel_rfl) (by kernel_rfl) rfl) ?_ ?_
          ·
            rintro _ _ ⟨rfl, rfl⟩
            refine AnyW.only 12 rfl (by kernel_rfl) rfl (dst_lt rfl) (s_buildSlice2 (z := .agg #[.int .i64 0, S []]) hS3 Try.underlying46 (by kernel_rfl) (by kernel_rfl) rfl) ?_
            rintro v37 H34 hS34
            clear hS3
            refine AnyW.only 13 rfl (by kernel_rfl) rfl (dst_lt rfl) (s_append (sz := 2) (by_ := 24) (z := .agg #[.int .i64 0, S []]) hS34 at5 Try.underlying46 (by kernel_rfl) (by kernel_rfl) (by kernel_rfl) rfl (by kernel_rfl) rfl rfl (src_vec (hS34.vec at0) (fun u hu => recC_one ⟨tSeq body, tDat body⟩ u hu)) (by unfold maxLen; omega) (by omega)) ?_
            rintro v38 H35 hS35
            clear hS34
            replace hS35 := hS35.del del0
            refine AnyW.only 14 rfl (by kernel_rfl) rfl rfl (s_mapUpdate (u := v38) hS35 at3 Try.underlying52 (key_str Try.underlying9) rfl rfl rfl) ?_
            rintro _ H36 ⟨rfl, hS36⟩
            clear hS35
            refine AnyW.done (by kernel_rfl) ?_
            replace hS36 := hS36.del del0
            exact CutP.go ⟨v38, _, trivial, Slots.eq ⟨(by rfl), (by rfl),  trivial⟩, (by rw [ofP_snoc, if_pos rfl, List.length_append, rowsV_append]; exact hS36)⟩
          ·
            rintro v37 H37 hS37
            clear hS3
            refine AnyW.two 3 13 rfl rfl (by kernel_rfl) rfl rfl (dst_lt rfl) (dst_lt rfl) (q_load (v := .map _) (by kernel_rfl) rfl (hS37.blk at3) rfl) (s_append (sz := 2) (by_ := 24) (z := .agg #[.int .i64 0, S []]) hS37 at5 Try.underlying46 (by kernel_rfl) (by kernel_rfl) (by kernel_rfl) rfl (by kernel_rfl) rfl rfl (src_vec (hS37.vec at0) (fun u hu => recC_one ⟨tSeq body, tDat body⟩ u hu)) (by unfold maxLen; omega) (by omega)) ?_ ?_
            ·
              rintro _ _ ⟨rfl, rfl⟩
              refine AnyW.only 13 rfl (by kernel_rfl) rfl (dst_lt rfl) (s_append (sz := 2) (by_ := 24) (z := .agg #[.int .i64 0, S []]) hS37 at5 Try.underlying46 (by kernel_rfl) (by kernel_rfl) (by kernel_rfl) rfl (by kernel_rfl) rfl rfl (src_vec (hS37.vec at0) (fun u hu => recC_one ⟨tSeq body, tDat body⟩ u hu)) (by unfold maxLen; omega) (by omega)) ?_
              rintro v38 H38 hS38
              clear hS37
              replace hS38 := hS38.del del0
              refine AnyW.only 14 rfl (by kernel_rfl) rfl rfl (s_mapUpdate (u := v38) hS38 at3 Try.underlying52 (key_str Try.underlying9) rfl rfl rfl) ?_
              rintro _ H39 ⟨rfl, hS39⟩
              clear hS38
              refine AnyW.done (by kernel_rfl) ?_
              replace hS39 := hS39.del del0
              exact CutP.go ⟨v38, _, trivial, Slots.eq ⟨(by rfl), (by rfl),  trivial⟩, (by rw [ofP_snoc, if_pos rfl, List.length_append, rowsV_append]; exact hS39)⟩
            ·
              rintro v38 H40 hS40
              clear hS37
              replace hS40 := hS40.del del0
              refine AnyW.onlyQ 3 rfl (by kernel_rfl) rfl (dst_lt rfl) (q_load (v := .map _) (by kernel_rfl) rfl (hS40.blk at2) rfl) ?_
              refine AnyW.only 14 rfl (by kernel_rfl) rfl rfl (s_mapUpdate (u := v38) hS40 at3 Try.underlying52 (key_str Try.underlying9) rfl rfl rfl) ?_
              rintro _ H41 ⟨rfl, hS41⟩
              clear hS40
              refine AnyW.done (by kernel_rfl) ?_
              replace hS41 := hS41.del del0
              exact CutP.go ⟨v38, _, trivial, Slots.eq ⟨(by rfl), (by rfl),  trivial⟩, (by rw [ofP_snoc, if_pos rfl, List.length_append, rowsV_append]; exact hS41)⟩
      ·
        rintro _ _ ⟨rfl, rfl⟩
        refine AnyW.three 3 10 12 rfl rfl rfl (by kernel_rfl) rfl rfl rfl (dst_lt rfl) (dst_lt rfl) (dst_lt rfl) (q_load (v := .map _) (by kernel_rfl) rfl (hS3.blk at2) rfl) (q_lookup (z := .slice none 0 0) Try.underlying52 (key_str Try.underlying9) (by kernel_rfl) rfl rfl (hS3.blk at3)) (s_buildSlice2 (z := .agg #[.int .i64 0, S []]) hS3 Try.underlying46 (by kernel_rfl) (by kernel_rfl) rfl) ?_ ?_ ?_
        ·
          rintro _ _ ⟨rfl, rfl⟩
          refine AnyW.two 10 12 rfl rfl (by kernel_rfl) rfl rfl (dst_lt rfl) (dst_lt rfl) (q_lookup (z := .slice none 0 0) Try.underlying52 (key_str Try.underlying9) (by kernel_rfl) rfl rfl (hS3.blk at3)) (s_buildSlice2 (z := .agg #[.int .i64 0, S []]) hS3 Try.underlying46 (by kernel_rfl) (by kernel_rfl) rfl) ?_ ?_
          ·
            rintro _ _ ⟨rfl, rfl⟩
            rw [hov]
            refine AnyW.only 12 rfl (by kernel_rfl) rfl (dst_lt rfl) (s_buildSlice2 (z := .agg #[.int .i64 0, S []]) hS3 Try.underlying46 (by kernel_rfl) (by kernel_rfl) rfl) ?_
            rintro v37 H42 hS42
            clear hS3
            refine AnyW.only 13 rfl (by kernel_rfl) rfl (dst_lt rfl) (s_append (sz := 2) (by_ := 24) (z := .agg #[.int .i64 0, S []]) hS42 at5 Try.underlying46 (by kernel_rfl) (by kernel_rfl) (by kernel_rfl) rfl (by kernel_rfl) rfl rfl (src_vec (hS42.vec at0) (fun u hu => recC_one ⟨tSeq body, tDat body⟩ u hu)) (by unfold maxLen; omega) (by omega)) ?_
            rintro v38 H43 hS43
            clear hS42
            replace hS43 := hS43.del del0
            refine AnyW.only 14 rfl (by kernel_rfl) rfl rfl (s_mapUpdate (u := v38) hS43 at3 Try.underlying52 (key_str Try.underlying9) rfl rfl rfl) ?_
            rintro _ H44 ⟨rfl, hS44⟩
            clear hS43
            refine AnyW.done (by kernel_rfl) ?_
            replace hS44 := hS44.del del0
            exact CutP.go ⟨v38, _, trivial, Slots.eq ⟨(by rfl), (by rfl),  trivial⟩, (by rw [ofP_snoc, if_pos rfl, List.length_append, rowsV_append]; exact hS44)⟩
          ·
            rintro v37 H45 hS45
            clear hS3
            refine AnyW.onlyQ 10 rfl (by kernel_rfl) rfl (dst_lt rfl) (q_lookup (z := .slice none 0 0) Try.underlying52 (key_str Try.underlying9) (by kernel_rfl) rfl rfl (hS45.blk at4)) ?_
            rw [hov]
            refine AnyW.only 13 rfl (by kernel_rfl) rfl (dst_lt rfl) (s_append (sz := 2) (by_ := 24) (z := .agg #[.int .i64 0, S []]) hS45 at5 Try.underlying46 (by kernel_rfl) (by kernel_rfl) (by kernel_rfl) rfl (by kernel_rfl) rfl rfl (src_vec (hS45.vec at0) (fun u hu => recC_one ⟨tSeq body, tDat body⟩ u hu)) (by unfold maxLen; omega) (by omega)) ?_
            rintro v38 H46 hS46
            clear hS45
            replace hS46 := hS46.del del0
            refine AnyW.only 14 rfl (by kernel_rfl) rfl rfl (s_mapUpdate (u := v38) hS46 at3 Try.underlying52 (key_str Try.underlying9) rfl rfl rfl) ?_
            rintro _ H47 ⟨rfl, hS47⟩
            clear hS46
            refine AnyW.done (by kernel_rfl) ?_
            replace hS47 := hS47.del del0
            exact CutP.go ⟨v38, _, trivial, Slots.eq ⟨(by rfl), (by rfl),  trivial⟩, (by rw [ofP_snoc, if_pos rfl, List.length_append, rowsV_append]; exact hS47)⟩
        ·
          rintro _ _ ⟨rfl, rfl⟩
          rw [hov]
          refine AnyW.two 3 12 rfl rfl (by kernel_rfl) rfl rfl (dst_lt rfl) (dst_lt rfl) (q_load (v := .map _) (by kernel_rfl) rfl (hS3.blk at2) rfl) (s_buildSlice2 (z := .agg #[.int .i64 0, S []]) hS3 Try.underlying46 (by kernel_rfl) (by kernel_rfl) rfl) ?_ ?_
          ·
            rintro _ _ ⟨rfl, rfl⟩
            refine AnyW.only 12 rfl (by kernel_rfl) rfl (dst_lt rfl) (s_buildSlice2 (z := .agg #[.int .i64 0, S []]) hS3 Try.underlying46 (by kernel_rfl) (by kernel_rfl) rfl) ?_
            rintro v37 H48 hS48
            clear hS3
            refine AnyW.only 13 rfl (by kernel_rfl) rfl (dst_lt rfl) (s_append (sz := 2) (by_ := 24) (z := .agg #[.int .i64 0, S []]) hS48 at5 Try.underlying46 (by kernel_rfl) (by kernel_rfl) (by kernel_rfl) rfl (by kernel_rfl) rfl rfl (src_vec (hS48.vec at0) (fun u hu => recC_one ⟨tSeq body, tDat body⟩ u hu)) (by unfold maxLen; omega) (by omega)) ?_
            rintro v38 H49 hS49
            clear hS48
            replace hS49 := hS49.del del0
            refine AnyW.only 14 rfl (by kernel_rfl) rfl rfl (s_mapUpdate (u := v38) hS49 at3 Try.underlying52 (key_str Try.underlying9) rfl rfl rfl) ?_
            rintro _ H50 ⟨rfl, hS50⟩
            clear hS49
            refine AnyW.done (by kernel_rfl) ?_
            replace hS50 := hS50.del del0
            exact CutP.go ⟨v38, _, trivial, Slots.eq ⟨(by rfl), (by rfl),  trivial⟩, (by rw [ofP_snoc, if_pos rfl, List.length_append, rowsV_append]; exact hS50)⟩
          ·
            rintro v37 H51 hS51
            clear hS3
            refine AnyW.two 3 13 rfl rfl (by kernel_rfl) rfl rfl (dst_lt rfl) (dst_lt rfl) (q_load (v := .map _) (by kernel_rfl) rfl (hS51.blk at3) rfl) (s_append (sz := 2) (by_ := 24) (z := .agg #[.int .i64 0, S []]) hS51 at5 Try.underlying46 (by kernel_rfl) (by kernel_rfl) (by kernel_rfl) rfl (by kernel_rfl) rfl rfl (src_vec (hS51.vec at0) (fun u hu => recC_one ⟨tSeq body, tDat body⟩ u hu)) (by unfold maxLen; omega) (by omega)) ?_ ?_
            ·
              rintro _ _ ⟨rfl, rfl⟩
              refine AnyW.only 13 rfl (by kernel_rfl) rfl (dst_lt rfl) (s_append (sz := 2) (by_ := 24) (z := .agg #[.int .i64 0, S []]) hS51 at5 Try.underlying46 (by kernel_rfl) (by kernel_rfl) (by kernel_rfl) rfl (by kernel_rfl) rfl rfl (src_vec (hS51.vec at0) (fun u hu => recC_one ⟨tSeq body, tDat body⟩ u hu)) (by unfold maxLen; omega) (by omega)) ?_
              rintro v38 H52 hS52
              clear hS51
              replace hS52 := hS52.del del0
              refine AnyW.only 14 rfl (by kernel_rfl) rfl rfl (s_mapUpdate (u := v38) hS52 at3 Try.underlying52 (key_str Try.underlying9) rfl rfl rfl) ?_
              rintro _ H53 ⟨rfl, hS53⟩
              clear hS52
              refine AnyW.done (by kernel_rfl) ?_
              replace hS53 := hS53.del del0
              exact CutP.go ⟨v38, _, trivial, Slots.eq ⟨(by rfl), (by rfl),  trivial⟩, (by rw [ofP_snoc, if_pos rfl, List.length_append, rowsV_append]; exact hS53)⟩
            ·
              rintro v38 H54 hS54
              clear hS51
              replace hS54 := hS54.del del0
              refine AnyW.onlyQ 3 rfl (by kernel_rfl) rfl (dst_lt rfl) (q_load (v := .map _) (by kernel_rfl) rfl (hS54.blk at2) rfl) ?_
              refine AnyW.only 14 rfl (by kernel_rfl) rfl rfl (s_mapUpdate (u := v38) hS54 at3 Try.underlying52 (key_str Try.underlying9) rfl rfl rfl) ?_
              rintro _ H55 ⟨rfl, hS55⟩
              clear hS54
              refine AnyW.done (by kernel_rfl) ?_
              replace hS55 := hS55.del del0
              exact CutP.go ⟨v38, _, trivial, Slots.eq ⟨(by rfl), (by rfl),  trivial⟩, (by rw [ofP_snoc, if_pos rfl, List.length_append, rowsV_append]; exact hS55)⟩
        ·
          rintro v37 H56 hS56
          clear hS3
          refine AnyW.two 3 10 rfl rfl (by kernel_rfl) rfl rfl (dst_lt rfl) (dst_lt rfl) (q_load (v := .map _) (by kernel_rfl) rfl (hS56.blk at3) rfl) (q_lookup (z := .slice none 0 0) Try.underlying52 (key_str Try.underlying9) (by kernel_rfl) rfl rfl (hS56.blk at4)) ?_ ?_
          ·
            rintro _ _ ⟨rfl, rfl⟩
            refine AnyW.onlyQ 10 rfl (by kernel_rfl) rfl (dst_lt rfl) (q_lookup (z := .slice none 0 0) Try.underlying52 (key_str Try.underlying9) (by kernel_rfl) rfl rfl (hS56.blk at4)) ?_
            rw [hov]
            refine AnyW.only 13 rfl (by kernel_rfl) rfl (dst_lt rfl) (s_append (sz := 2) (by_ := 24) (z := .agg #[.int .i64 0, S []]) hS56 at5 Try.underlying46 (by kernel_rfl) (by kernel_rfl) (by kernel_rfl) rfl (by kernel_rfl) rfl rfl (src_vec (hS56.vec at0) (fun u hu => recC_one ⟨tSeq body, tDat body⟩ u hu)) (by unfold maxLen; omega) (by omega)) ?_
            rintro v38 H57 hS57
            clear hS56
            replace hS57 := hS57.del del0
            refine AnyW.only 14 rfl (by kernel_rfl) rfl rfl (s_mapUpdate (u := v38) hS57 at3 Try.underlying52 (key_str Try.underlying9) rfl rfl rfl) ?_
            rintro _ H58 ⟨rfl, hS58⟩
            clear hS57
            refine AnyW.done (by kernel_rfl) ?_
            replace hS58 := hS58.del del0
            exact CutP.go ⟨v38, _, trivial, Slots.eq ⟨(by rfl), (by rfl),  trivial⟩, (by rw [ofP_snoc, if_pos rfl, List.length_append, rowsV_append]; exact hS58)⟩
          ·
            rintro _ _ ⟨rfl, rfl⟩
            rw [hov]
            refine AnyW.two 3 13 rfl rfl (by kernel_rfl) rfl rfl (dst_lt rfl) (dst_lt rfl) (q_load (v := .map _) (by kernel_rfl) rfl (hS56.blk at3) rfl) (s_append (sz := 2) (by_ := 24) (z := .agg #[.int .i64 0, S []]) hS56 at5 Try.underlying46 (by kernel_rfl) (by kernel_rfl) (by kernel_rfl) rfl (by kernel_rfl) rfl rfl (src_vec (hS56.vec at0) (fun u hu => recC_one ⟨tSeq body, tDat body⟩ u hu)) (by unfold maxLen; omega) (by omega)) ?_ ?_
            ·
              rintro _ _ ⟨rfl, rfl⟩
              refine AnyW.only 13 rfl (by kernel_rfl) rfl (dst_lt rfl) (s_append (sz := 2) (by_ := 24) (z := .agg #[.int .i64 0, S []]) hS56 at5 Try.underlying46 (by kernel_rfl) (by kernel_rfl) (by kernel_rfl) rfl (by kernel_rfl) rfl rfl (src_vec (hS56.vec at0) (fun u hu => recC_one ⟨tSeq body, tDat body⟩ u hu)) (by unfold maxLen; omega) (by omega)) ?_
              rintro v38 H59 hS59
              clear hS56
              replace hS59 := hS59.del del0
              refine AnyW.only 14 rfl (by kernel_rfl) rfl rfl (s_mapUpdate (u := v38) hS59 at3 Try.underlying52 (key_str Try.underlying9) rfl rfl rfl) ?_
              rintro _ H60 ⟨rfl, hS60⟩
              clear hS59
              refine AnyW.done (by kernel_rfl) ?_
              replace hS60 := hS60.del del0
              exact CutP.go ⟨v38, _, trivial, Slots.eq ⟨(by rfl), (by rfl),  trivial⟩, (by rw [ofP_snoc, if_pos rfl, List.length_append, rowsV_append]; exact hS60)⟩
            ·
              rintro v38 H61 hS61
              clear hS56
              replace hS61 := hS61.del del0
              refine AnyW.onlyQ 3 rfl (by kernel_rfl) rfl (dst_lt rfl) (q_load (v := .map _) (by kernel_rfl) rfl (hS61.blk at2) rfl) ?_
              refine AnyW.only 14 rfl (by kernel_rfl) rfl rfl (s_mapUpdate (u := v38) hS61 at3 Try.underlying52 (key_str Try.underlying9) rfl rfl rfl) ?_
              rintro _ H62 ⟨rfl, hS62⟩
              clear hS61
              refine AnyW.done (by kernel_rfl) ?_
              replace hS62 := hS62.del del0
              exact CutP.go ⟨v38, _, trivial, Slots.eq ⟨(by rfl), (by rfl),  trivial⟩, (by rw [ofP_snoc, if_pos rfl, List.length_append, rowsV_append]; exact hS62)⟩
    ·
      rintro _ _ ⟨rfl, rfl⟩
      refine AnyW.three 3 8 12 rfl rfl rfl (by kernel_rfl) rfl rfl rfl (dst_lt rfl) (dst_lt rfl) (dst_lt rfl) (q_load (v := .map _) (by kernel_rfl) rfl (hS3.blk at2) rfl) (q_load (v := .map _) (by kernel_rfl) rfl (hS3.blk at2) rfl) (s_buildSlice2 (z := .agg #[.int .i64 0, S []]) hS3 Try.underlying46 (by kernel_rfl) (by kernel_rfl) rfl) ?_ ?_ ?_
      ·
        rintro _ _ ⟨rfl, rfl⟩
        refine AnyW.two 8 12 rfl rfl (by kernel_rfl) rfl rfl (dst_lt rfl) (dst_lt rfl) (q_load (v := .map _) (by kernel_rfl) rfl (hS3.blk at2) rfl) (s_buildSlice2 (z := .agg #[.int .i64 0, S []]) hS3 Try.underlying46 (by kernel_rfl) (by kernel_rfl) rfl) ?_ ?_
        ·
          rintro _ _ ⟨rfl, rfl⟩
          refine AnyW.two 10 12 rfl rfl (by kernel_rfl) rfl rfl (dst_lt rfl) (dst_lt rfl) (q_lookup (z := .slice none 0 0) Try.underlying52 (key_str Try.underlying9) (by kernel_rfl) rfl rfl (hS3.blk at3)) (s_buildSlice2 (z := .agg #[.int .i64 0, S []]) hS3 Try.underlying46 (by kernel_rfl) (by kernel_rfl) rfl) ?_ ?_
          ·
            rintro _ _ ⟨rfl, rfl⟩
            rw [hov]
            refine AnyW.only 12 rfl (by kernel_rfl) rfl (dst_lt rfl) (s_buildSlice2 (z := .agg #[.int .i64 0, S []]) hS3 Try.underlying46 (by kernel_rfl) (by kernel_rfl) rfl) ?_
            rintro v37 H63 hS63
            clear hS3
            refine AnyW.only 13 rfl (by kernel_rfl) rfl (dst_lt rfl) (s_append (sz := 2) (by_ := 24) (z := .agg #[.int .i64 0, S []]) hS63 at5 Try.underlying46 (by kernel_rfl) (by kernel_rfl) (by kernel_rfl) rfl (by kernel_rfl) rfl rfl (src_vec (hS63.vec at0) (fun u hu => recC_one ⟨tSeq body, tDat body⟩ u hu)) (by unfold maxLen; omega) (by omega)) ?_
            rintro v38 H64 hS64
            clear hS63
            replace hS64 := hS64.del del0
            refine AnyW.only 14 rfl (by kernel_rfl) rfl rfl (s_mapUpdate (u := v38) hS64 at3 Try.underlying52 (key_str Try.underlying9) rfl rfl rfl) ?_
            rintro _ H65 ⟨rfl, hS65⟩
            clear hS64
            refine AnyW.done (by kernel_rfl) ?_
            replace hS65 := hS65.del del0
            exact CutP.go ⟨v38, _, trivial, Slots.eq ⟨(by rfl), (by rfl),  trivial⟩, (by rw [ofP_snoc, if_pos rfl, List.length_append, rowsV_append]; exact hS65)⟩
          ·
            rintro v37 H66 hS66
            clear hS3
            refine AnyW.onlyQ 10 rfl (by kernel_rfl) rfl (dst_lt rfl) (q_lookup (z := .slice none 0 0) Try.underlying52 (key_str Try.underlying9) (by kernel_rfl) rfl rfl (hS66.blk at4)) ?_
            rw [hov]
            refine AnyW.only 13 rfl (by kernel_rfl) rfl (dst_lt rfl) (s_append (sz := 2) (by_ := 24) (z := .agg #[.int .i64 0, S []]) hS66 at5 Try.underlying46 (by kernel_rfl) (by kernel_rfl) (by kernel_rfl) rfl (by kernel_rfl) rfl rfl (src_vec (hS66.vec at0) (fun u hu => recC_one ⟨tSeq body, tDat body⟩ u hu)) (by unfold maxLen; omega) (by omega)) ?_
            rintro v38 H67 hS67
            clear hS66
            replace hS67 := hS67.del del0
            refine AnyW.only 14 rfl (by kernel_rfl) rfl rfl (s_mapUpdate (u := v38) hS67 at3 Try.underlying52 (key_str Try.underlying9) rfl rfl rfl) ?_
            rintro _ H68 ⟨rfl, hS68⟩
            clear hS67
            refine AnyW.done (by kernel_rfl) ?_
            replace hS68 := hS68.del del0
            exact CutP.go ⟨v38, _, trivial, Slots.eq ⟨(by rfl), (by rfl),  trivial⟩, (by rw [ofP_snoc, if_pos rfl, List.length_append, rowsV_append]; exact hS68)⟩
        ·
          rintro v37 H69 hS69
          clear hS3
          refine AnyW.onlyQ 8 rfl (by kernel_rfl) rfl (dst_lt rfl) (q_load (v := .map _) (by kernel_rfl) rfl (hS69.blk at3) rfl) ?_
          refine AnyW.onlyQ 10 rfl (by kernel_rfl) rfl (dst_lt rfl) (q_lookup (z := .slice none 0 0) Try.underlying52 (key_str Try.underlying9) (by kernel_rfl) rfl rfl (hS69.blk at4)) ?_
          rw [hov]
          refine AnyW.only 13 rfl (by kernel_rfl) rfl (dst_lt rfl) (s_append (sz := 2) (by_ := 24) (z := .agg #[.int .i64 0, S []]) hS69 at5 Try.underlying46 (by kernel_rfl) (by kernel_rfl) (by kernel_rfl) rfl (by kernel_rfl) rfl rfl (src_vec (hS69.vec at0) (fun u hu => recC_one ⟨tSeq body, tDat body⟩ u hu)) (by unfold maxLen; omega) (by omega)) ?_
          rintro v38 H70 hS70
          clear hS69
          replace hS70 := hS70.del del0
          refine AnyW.only 14 rfl (by kernel_rfl) rfl rfl (s_mapUpdate (u := v38) hS70 at3 Try.underlying52 (key_str Try.underlying9) rfl rfl rfl) ?_
          rintro _ H71 ⟨rfl, hS71⟩
          clear hS70
          refine AnyW.done (by kernel_rfl) ?_
          replace hS71 := hS71.del del0
          exact CutP.go ⟨v38, _, trivial, Slots.eq ⟨(by rfl), (by rfl),  trivial⟩, (by rw [ofP_snoc, if_pos rfl, List.length_append, rowsV_append]; exact hS71)⟩
      ·
        rintro _ _ ⟨rfl, rfl⟩
        refine AnyW.three 3 10 12 rfl rfl rfl (by kernel_rfl) rfl rfl rfl (dst_lt rfl) (dst_lt rfl) (dst_lt rfl) (q_load (v := .map _) (by kernel_rfl) rfl (hS3.blk at2) rfl) (q_lookup (z := .slice none 0 0) Try.underlying52 (key_str Try.underlying9) (by kernel_rfl) rfl rfl (hS3.blk at3)) (s_buildSlice2 (z := .agg #[.int .i64 0, S []]) hS3 Try.underlying46 (by kernel_rfl) (by kernel_rfl) rfl) ?_ ?_ ?_
        ·
          rintro _ _ ⟨rfl, rfl⟩
          refine AnyW.two 10 12 rfl rfl (by kernel_rfl) rfl rfl (dst_lt rfl) (dst_lt rfl) (q_lookup (z := .slice none 0 0) Try.underlying52 (key_str Try.underlying9) (by kernel_rfl) rfl rfl (hS3.blk at3)) (s_buildSlice2 (z := .agg #[.int .i64 0, S []]) hS3 Try.underlying46 (by kernel_rfl) (by kernel_rfl) rfl) ?_ ?_
          ·
            rintro _ _ ⟨rfl, rfl⟩
            rw [hov]
            refine AnyW.only 12 rfl (by kernel_rfl) rfl (dst_lt rfl) (s_buildSlice2 (z := .agg #[.int .i64 0, S []]) hS3 Try.underlying46 (by kernel_rfl) (by kernel_rfl) rfl) ?_
            rintro v37 H72 hS72
            clear hS3
            refine AnyW.only 13 rfl (by kernel_rfl) rfl (dst_lt rfl) (s_append (sz := 2) (by_ := 24) (z := .agg #[.int .i64 0, S []]) hS72 at5 Try.underlying46 (by kernel_rfl) (by kernel_rfl) (by kernel_rfl) rfl (by kernel_rfl) rfl rfl (src_vec (hS72.vec at0) (fun u hu => recC_one ⟨tSeq body, tDat body⟩ u hu)) (by unfold maxLen; omega) (by omega)) ?_
            rintro v38 H73 hS73
            clear hS72
            replace hS73 := hS73.del del0
            refine AnyW.only 14 rfl (by kernel_rfl) rfl rfl (s_mapUpdate (u := v38) hS73 at3 Try.underlying52 (key_str Try.underlying9) rfl rfl rfl) ?_
            rintro _ H74 ⟨rfl, hS74⟩
            clear hS73
            refine AnyW.done (by kernel_rfl) ?_
            replace hS74 := hS74.del del0
            exact CutP.go ⟨v38, _, trivial, Slots.eq ⟨(by rfl), (by rfl),  trivial⟩, (by rw [ofP_snoc, if_pos rfl, List.length_append, rowsV_append]; exact hS74)⟩
          ·
            rintro v37 H75 hS75
            clear hS3
            refine AnyW.onlyQ 10 rfl (by kernel_rfl) rfl (dst_lt rfl) (q_lookup (z := .slice none 0 0) Try.underlying52 (key_str Try.underlying9) (by kernel_rfl) rfl rfl (hS75.blk at4)) ?_
            rw [hov]
            refine AnyW.only 13 rfl (by kernel_rfl) rfl (dst_lt rfl) (s_append (sz := 2) (by_ := 24) (z := .agg #[.int .i64 0, S []]) hS75 at5 Try.underlying46 (by kernel_rfl) (by kernel_rfl) (by kernel_rfl) rfl (by kernel_rfl) rfl rfl (src_vec (hS75.vec at0) (fun u hu => recC_one ⟨tSeq body, tDat body⟩ u hu)) (by unfold maxLen; omega) (by omega)) ?_
            rintro v38 H76 hS76
            clear hS75
            replace hS76 := hS76.del del0
            refine AnyW.only 14 rfl (by kernel_rfl) rfl rfl (s_mapUpdate (u := v38) hS76 at3 Try.underlying52 (key_str Try.underlying9) rfl rfl rfl) ?_
            rintro _ H77 ⟨rfl, hS77⟩
            clear hS76
            refine AnyW.done (by kernel_rfl) ?_
            replace hS77 := hS77.del del0
            exact CutP.go ⟨v38, _, trivial, Slots.eq ⟨(by rfl), (by rfl),  trivial⟩, (by rw [ofP_snoc, if_pos rfl, List.length_append, rowsV_append]; exact hS77)⟩
        ·
          rintro _ _ ⟨rfl, rfl⟩
          rw [hov]
          refine AnyW.two 3 12 rfl rfl (by kernel_rfl) rfl rfl (dst_lt rfl) (dst_lt rfl) (q_load (v := .map _) (by kernel_rfl) rfl (hS3.blk at2) rfl) (s_buildSlice2 (z := .agg #[.int .i64 0, S []]) hS3 Try.underlying46 (by kernel_rfl) (by kernel_rfl) rfl) ?_ ?_
          ·
            rintro _ _ ⟨rfl, rfl⟩
            refine AnyW.only 12 rfl (by kernel_rfl) rfl (dst_lt rfl) (s_buildSlice2 (z := .agg #[.int .i64 0, S []]) hS3 Try.underlying46 (by kernel_rfl) (by kernel_rfl) rfl) ?_
            rintro v37 H78 hS78
            clear hS3
            refine AnyW.only 13 rfl (by kernel_rfl) rfl (dst_lt rfl) (s_append (sz := 2) (by_ := 24) (z := .agg #[.int .i64 0, S []]) hS78 at5 Try.underlying46 (by kernel_rfl) (by kernel_rfl) (by kernel_rfl) rfl (by kernel_rfl) rfl rfl (src_vec (hS78.vec at0) (fun u hu => recC_one ⟨tSeq body, tDat body⟩ u hu)) (by unfold maxLen; omega) (by omega)) ?_
            rintro v38 H79 hS79
            clear hS78
            replace hS79 := hS79.del del0
            refine AnyW.only 14 rfl (by kernel_rfl) rfl rfl (s_mapUpdate (u := v38) hS79 at3 Try.underlying52 (key_str Try.underlying9) rfl rfl rfl) ?_
            rintro _ H80 ⟨rfl, hS80⟩
            clear hS79
            refine AnyW.done (by kernel_rfl) ?_
            replace hS80 := hS80.del del0
            exact CutP.go ⟨v38, _, trivial, Slots.eq ⟨(by rfl), (by rfl),  trivial⟩, (by rw [ofP_snoc, if_pos rfl, List.length_append, rowsV_append]; exact hS80)⟩
          ·
            rintro v37 H81 hS81
            clear hS3
            refine AnyW.two 3 13 rfl rfl (by kernel_rfl) rfl rfl (dst_lt rfl) (dst_lt rfl) (q_load (v := .map _) (by kernel_rfl) rfl (hS81.blk at3) rfl) (s_append (sz := 2) (by_ := 24) (z := .agg #[.int .i64 0, S []]) hS81 at5 Try.underlying46 (by kernel_rfl) (by kernel_rfl) (by kernel_rfl) rfl (by kernel_rfl) rfl rfl (src_vec (hS81.vec at0) (fun u hu => recC_one ⟨tSeq body, tDat body⟩ u hu)) (by unfold maxLen; omega) (by omega)) ?_ ?_
            ·
              rintro _ _ ⟨rfl, rfl⟩
              refine AnyW.only 13 rfl (by kernel_rfl) rfl (dst_lt rfl) (s_append (sz := 2) (by_ := 24) (z := .agg #[.int .i64 0, S []]) hS81 at5 Try.underlying46 (by kernel_rfl) (by kernel_rfl) (by kernel_rfl) rfl (by kernel_rfl) rfl rfl (src_vec (hS81.vec at0) (fun u hu => recC_one ⟨tSeq body, tDat body⟩ u hu)) (by unfold maxLen; omega) (by omega)) ?_
              rintro v38 H82 hS82
              clear hS81
              replace hS82 := hS82.del del0
              refine AnyW.only 14 rfl (by kernel_rfl) rfl rfl (s_mapUpdate (u := v38) hS82 at3 Try.underlying52 (key_str Try.underlying9) rfl rfl rfl) ?_
              rintro _ H83 ⟨rfl, hS83⟩
              clear hS82
              refine AnyW.done (by kernel_rfl) ?_
              replace hS83 := hS83.del del0
              exact CutP.go ⟨v38, _, trivial, Slots.eq ⟨(by rfl), (by rfl),  trivial⟩, (by rw [ofP_snoc, if_pos rfl, List.length_append, rowsV_append]; exact hS83)⟩
            ·
              rintro v38 H84 hS84
              clear hS81
              replace hS84 := hS84.del del0
              refine AnyW.onlyQ 3 rfl (by kernel_rfl) rfl (dst_lt rfl) (q_load (v := .map _) (by kernel_rfl) rfl (hS84.blk at2) rfl) ?_
              refine AnyW.only 14 rfl (by kernel_rfl) rfl rfl (s_mapUpdate (u := v38) hS84 at3 Try.underlying52 (key_str Try.underlying9) rfl rfl rfl) ?_
              rintro _ H85 ⟨rfl, hS85⟩
              clear hS84
              refine AnyW.done (by kernel_rfl) ?_
              replace hS85 := hS85.del del0
              exact CutP.go ⟨v38, _, trivial, Slots.eq ⟨(by rfl), (by rfl),  trivial⟩, (by rw [ofP_snoc, if_pos rfl, List.length_append, rowsV_append]; exact hS85)⟩
        ·
          rintro v37 H86 hS86
          clear hS3
          refine AnyW.two 3 10 rfl rfl (by kernel_rfl) rfl rfl (dst_lt rfl) (dst_lt rfl) (q_load (v := .map _) (by kernel_rfl) rfl (hS86.blk at3) rfl) (q_lookup (z := .slice none 0 0) Try.underlying52 (key_str Try.underlying9) (by kernel_rfl) rfl rfl (hS86.blk at4)) ?_ ?_
          ·
            rintro _ _ ⟨rfl, rfl⟩
            refine AnyW.onlyQ 10 rfl (by kernel_rfl) rfl (dst_lt rfl) (q_lookup (z := .slice none 0 0) Try.underlying52 (key_str Try.underlying9) (by kernel_rfl) rfl rfl (hS86.blk at4)) ?_
            rw [hov]
            refine AnyW.only 13 rfl (by kernel_rfl) rfl (dst_lt rfl) (s_append (sz := 2) (by_ := 24) (z := .agg #[.int .i64 0, S []]) hS86 at5 Try.underlying46 (by kernel_rfl) (by kernel_rfl) (by kernel_rfl) rfl (by kernel_rfl) rfl rfl (src_vec (hS86.vec at0) (fun u hu => recC_one ⟨tSeq body, tDat body⟩ u hu)) (by unfold maxLen; omega) (by omega)) ?_
            rintro v38 H87 hS87
            clear hS86
            replace hS87 := hS87.del del0
            refine AnyW.only 14 rfl (by kernel_rfl) rfl rfl (s_mapUpdate (u := v38) hS87 at3 Try.underlying52 (key_str Try.underlying9) rfl rfl rfl) ?_
            rintro _ H88 ⟨rfl, hS88⟩
            clear hS87
            refine AnyW.done (by kernel_rfl) ?_
            replace hS88 := hS88.del del0
            exact CutP.go ⟨v38, _, trivial, Slots.eq ⟨(by rfl), (by rfl),  trivial⟩, (by rw [ofP_snoc, if_pos rfl, List.length_append, rowsV_append]; exact hS88)⟩
          ·
            rintro _ _ ⟨rfl, rfl⟩
            rw [hov]
            refine AnyW.two 3 13 rfl rfl (by kernel_rfl) rfl rfl (dst_lt rfl) (dst_lt rfl) (q_load (v := .map _) (by kernel_rfl) rfl (hS86.blk at3) rfl) (s_append (sz := 2) (by_ := 24) (z := .agg #[.int .i64 0, S []]) hS86 at5 Try.underlying46 (by kernel_rfl) (by kernel_rfl) (by kernel_rfl) rfl (by kernel_rfl) rfl rfl (src_vec (hS86.vec at0) (fun u hu => recC_one ⟨tSeq body, tDat body⟩ u hu)) (by unfold maxLen; omega) (by omega)) ?_ ?_
            ·
              rintro _ _ ⟨rfl, rfl⟩
              refine AnyW.only 13 rfl (by kernel_rfl) rfl (dst_lt rfl) (s_append (sz := 2) (by_ := 24) (z := .agg #[.int .i64 0, S []]) hS86 at5 Try.underlying46 (by kernel_rfl) (by kernel_rfl) (by kernel_rfl) rfl (by kernel_rfl) rfl rfl (src_vec (hS86.vec at0) (fun u hu => recC_one ⟨tSeq body, tDat body⟩ u hu)) (by unfold maxLen; omega) (by omega)) ?_
              rintro v38 H89 hS89
              clear hS86
              replace hS89 := hS89.del del0
              refine AnyW.only 14 rfl (by kernel_rfl) rfl rfl (s_mapUpdate (u := v38) hS89 at3 Try.underlying52 (key_str Try.underlying9) rfl rfl rfl) ?_
              rintro _ H90 ⟨rfl, hS90⟩
              clear hS89
              refine AnyW.done (by kernel_rfl) ?_
              replace hS90 := hS90.del del0
              exact CutP.go ⟨v38, _, trivial, Slots.eq ⟨(by rfl), (by rfl),  trivial⟩, (by rw [ofP_snoc, if_pos rfl, List.length_append, rowsV_append]; exact hS90)⟩
            ·
              rintro v38 H91 hS91
              clear hS86
              replace hS91 := hS91.del del0
              refine AnyW.onlyQ 3 rfl (by kernel_rfl) rfl (dst_lt rfl) (q_load (v := .map _) (by kernel_rfl) rfl (hS91.blk at2) rfl) ?_
              refine AnyW.only 14 rfl (by kernel_rfl) rfl rfl (s_mapUpdate (u := v38) hS91 at3 Try.underlying52 (key_str Try.underlying9) rfl rfl rfl) ?_
              rintro _ H92 ⟨rfl, hS92⟩
              clear hS91
              refine AnyW.done (by kernel_rfl) ?_
              replace hS92 := hS92.del del0
              exact CutP.go ⟨v38, _, trivial, Slots.eq ⟨(by rfl), (by rfl),  trivial⟩, (by rw [ofP_snoc, if_pos rfl, List.length_append, rowsV_append]; exact hS92)⟩
      ·
        rintro v37 H93 hS93
        clear hS3
        refine AnyW.two 3 8 rfl rfl (by kernel_rfl) rfl rfl (dst_lt rfl) (dst_lt rfl) (q_load (v := .map _) (by kernel_rfl) rfl (hS93.blk at3) rfl) (q_load (v := .map _) (by kernel_rfl) rfl (hS93.blk at3) rfl) ?_ ?_
        ·
          rintro _ _ ⟨rfl, rfl⟩
          refine AnyW.onlyQ 8 rfl (by kernel_rfl) rfl (dst_lt rfl) (q_load (v := .map _) (by kernel_rfl) rfl (hS93.blk at3) rfl) ?_
          refine AnyW.onlyQ 10 rfl (by kernel_rfl) rfl (dst_lt rfl) (q_lookup (z := .slice none 0 0) Try.underlying52 (key_str Try.underlying9) (by kernel_rfl) rfl rfl (hS93.blk at4)) ?_
          rw [hov]
          refine AnyW.only 13 rfl (by kernel_rfl) rfl (dst_lt rfl) (s_append (sz := 2) (by_ := 24) (z := .agg #[.int .i64 0, S []]) hS93 at5 Try.underlying46 (by kernel_rfl) (by kernel_rfl) (by kernel_rfl) rfl (by kernel_rfl) rfl rfl (src_vec (hS93.vec at0) (fun u hu => recC_one ⟨tSeq body, tDat body⟩ u hu)) (by unfold maxLen; omega) (by omega)) ?_
          rintro v38 H94 hS94
          clear hS93
          replace hS94 := hS94.del del0
          refine AnyW.only 14 rfl (by kernel_rfl) rfl rfl (s_mapUpdate (u := v38) hS94 at3 Try.underlying52 (key_str Try.underlying9) rfl rfl rfl) ?_
          rintro _ H95 ⟨rfl, hS95⟩
          clear hS94
          refine AnyW.done (by kernel_rfl) ?_
          replace hS95 := hS95.del del0
          exact CutP.go ⟨v38, _, trivial, Slots.eq ⟨(by rfl), (by rfl),  trivial⟩, (by rw [ofP_snoc, if_pos rfl, List.length_append, rowsV_append]; exact hS95)⟩
        ·
          rintro _ _ ⟨rfl, rfl⟩
          refine AnyW.two 3 10 rfl rfl (by kernel_rfl) rfl rfl (dst_lt rfl) (dst_lt rfl) (q_load (v := .map _) (by kernel_rfl) rfl (hS93.blk at3) rfl) (q_lookup (z := .slice none 0 0) Try.underlying52 (key_str Try.underlying9) (by kernel_rfl) rfl rfl (hS93.blk at4)) ?_ ?_
          ·
            rintro _ _ ⟨rfl, rfl⟩
            refine AnyW.onlyQ 10 rfl (by kernel_rfl) rfl (dst_lt rfl) (q_lookup (z := .slice none 0 0) Try.underlying52 (key_str Try.underlying9) (by kernel_rfl) rfl rfl (hS93.blk at4)) ?_
            rw [hov]
            refine AnyW.only 13 rfl (by kernel_rfl) rfl (dst_lt rfl) (s_append (sz := 2) (by_ := 24) (z := .agg #[.int .i64 0, S []]) hS93 at5 Try.underlying46 (by kernel_rfl) (by kernel_rfl) (by kernel_rfl) rfl (by kernel_rfl) rfl rfl (src_vec (hS93.vec at0) (fun u hu => recC_one ⟨tSeq body, tDat body⟩ u hu)) (by unfold maxLen; omega) (by omega)) ?_
            rintro v38 H96 hS96
            clear hS93
            replace hS96 := hS96.del del0
            refine AnyW.only 14 rfl (by kernel_rfl) rfl rfl (s_mapUpdate (u := v38) hS96 at3 Try.underlying52 (key_str Try.underlying9) rfl rfl rfl) ?_
            rintro _ H97 ⟨rfl, hS97⟩
            clear hS96
            refine AnyW.done (by kernel_rfl) ?_
            replace hS97 := hS97.del del0
            exact CutP.go ⟨v38, _, trivial, Slots.eq ⟨(by rfl), (by rfl),  trivial⟩, (by rw [ofP_snoc, if_pos rfl, List.length_append, rowsV_append]; exact hS97)⟩
          ·
            rintro _ _ ⟨rfl, rfl⟩
            rw [hov]
            refine AnyW.two 3 13 rfl rfl (by kernel_rfl) rfl rfl (dst_lt rfl) (dst_lt rfl) (q_load (v := .map _) (by kernel_rfl) rfl (hS93.blk at3) rfl) (s_append (sz := 2) (by_ := 24) (z := .agg #[.int .i64 0, S []]) hS93 at5 Try.underlying46 (by kernel_rfl) (by kernel_rfl) (by kernel_rfl) rfl (by kernel_rfl) rfl rfl (src_vec (hS93.vec at0) (fun u hu => recC_one ⟨tSeq body, tDat body⟩ u hu)) (by unfold maxLen; omega) (by omega)) ?_ ?_
            ·
              rintro _ _ ⟨rfl, rfl⟩
              refine AnyW.only 13 rfl (by kernel_rfl) rfl (dst_lt rfl) (s_append (sz := 2) (by_ := 24) (z := .agg #[.int .i64 0, S []]) hS93 at5 Try.underlying46 (by kernel_rfl) (by kernel_rfl) (by kernel_rfl) rfl (by kernel_rfl) rfl rfl (src_vec (hS93.vec at0) (fun u hu => recC_one ⟨tSeq body, tDat body⟩ u hu)) (by unfold maxLen; omega) (by omega)) ?_
              rintro v38 H98 hS98
              clear hS93
              replace hS98 := hS98.del del0
              refine AnyW.only 14 rfl (by kernel_rfl) rfl rfl (s_mapUpdate (u := v38) hS98 at3 Try.underlying52 (key_str Try.underlying9) rfl rfl rfl) ?_
              rintro _ H99 ⟨rfl, hS99⟩
              clear hS98
              refine AnyW.done (by kernel_rfl) ?_
              replace hS99 := hS99.del del0
              exact CutP.go ⟨v38, _, trivial, Slots.eq ⟨(by rfl), (by rfl),  trivial⟩, (by rw [ofP_snoc, if_pos rfl, List.length_append, rowsV_append]; exact hS99)⟩
            ·
              rintro v38 H100 hS100
              clear hS93
              replace hS100 := hS100.del del0
              refine AnyW.onlyQ 3 rfl (by kernel_rfl) rfl (dst_lt rfl) (q_load (v := .map _) (by kernel_rfl) rfl (hS100.blk at2) rfl) ?_
              refine AnyW.only 14 rfl (by kernel_rfl) rfl rfl (s_mapUpdate (u := v38) hS100 at3 Try.underlying52 (key_str Try.underlying9) rfl rfl rfl) ?_
              rintro _ H101 ⟨rfl, hS101⟩
              clear hS100
              refine AnyW.done (by kernel_rfl) ?_
              replace hS101 := hS101.del del0
              exact CutP.go ⟨v38, _, trivial, Slots.eq ⟨(by rfl), (by rfl),  trivial⟩, (by rw [ofP_snoc, if_pos rfl, List.length_append, rowsV_append]; exact hS101)⟩
  rintro _ Hc102 ⟨ov2, _, _, rfl, hSc102⟩
  try clear hS3
  refine AW.seq ?_
  refine AW.region ?_
  refine OpsW.q rfl (q_move (v := .pointer _) rfl) ?_
  refine OpsW.q rfl (q_fieldAddr (sz := 0) Try.underlying74 rfl (by kernel_rfl) rfl) ?_
  refine OpsW.q rfl (q_load (v := S _) (by kernel_rfl) rfl (hSc102.blk at0) rfl) ?_
  refine OpsW.q rfl (q_nilCheck rfl) ?_
  refine OpsW.q rfl (q_fieldAddr (sz := 0) Try.underlying85 rfl (by kernel_rfl) rfl) ?_
  refine OpsW.ms (s_storeC (v := S _) hSc102 at1 (by kernel_rfl) rfl rfl rfl (by simp; done)) ?_
  rintro _ H103 ⟨rfl, hS103⟩
  clear hSc102
  refine OpsW.nil ?_
  refine SeqP.go ?_
  refine AW.seq ?_
  refine AW.region ?_
  refine OpsW.q rfl (q_assign (v := .bool _) rfl) ?_
  refine OpsW.nil ?_
  refine SeqP.go ?_
  refine AW.ret ?_
  refine RetP.mk1 (H' := _) (v1 := .bool _) rfl rfl  (Hp.le_refl _) ?_
  refine ⟨rfl, ?_⟩
  exact Sep.under hS103.tail fun hG => st_close hnd hno (fun w hw => by rw [ofP_snoc, if_neg (fun e => hw e.symm)]) hG
end
end Go.Proofs.Ytfiojlmccflplaa
end
section
namespace Go.Proofs.Ytfiojlmccflplaa.D
open Go Go.RowKit
set_option linter.unusedVariables false
set_option linter.unusedSimpArgs false
variable {P : Program} {w0 : World} {n : Nat} {H : Hp}
/-- t and p are a list of places and its inverse. -/
def permOk (t p : List Nat) (m : Nat) : Bool := t.length == m && p.length == m && (List.range m).all fun i => Nat.blt (p.getD i m) m && Nat.blt (t.getD i m) m && t.getD (p.getD i m) m == i && p.getD (t.getD i m) m == i
structure Perm (t p : List Nat) (m : Nat) : Prop where
  lt : t.length = m
  lp : p.length = m
  pl : ∀ i, i < m → p.getD i m < m
  tl : ∀ i, i < m → t.getD i m < m
  tp : ∀ i, i < m → t.getD (p.getD i m) m = i
  pt : ∀ i, i < m → p.getD (t.getD i m) m = i
theorem Perm.of {t p : List Nat} {m : Nat} (h : permOk t p m = true) : Perm t p m := by
  unfold permOk at h
  simp only [Bool.and_eq_true, beq_iff_eq, List.all_eq_true, List.mem_range] at h
  obtain ⟨⟨h1, h2⟩, h3⟩ := h
  refine ⟨h1, h2, fun i hi => ?_, fun i hi => ?_, fun i hi => (h3 i hi).1.2, fun i hi => (h3 i hi).2⟩
  · exact Nat.le_of_ble_eq_true (h3 i hi).1.1.1
  · exact Nat.le_of_ble_eq_true (h3 i hi).1.1.2
theorem getD_in {p : List Nat} {i d d' : Nat} (h : i < p.length) : p.getD i d = p.getD i d' := by
  rw [List.getD_eq_getElem?_getD, List.getD_eq_getElem?_getD, List.getElem?_eq_getElem h]; rfl
theorem getD_out {p : List Nat} {i d : Nat} (h : p.length ≤ i) : p.getD i d = d := by
  rw [List.getD_eq_getElem?_getD, List.getElem?_eq_none h]; rfl
/-- What is listed, seen from the places as they were. -/
structure Seen (p : List Nat) (m : Nat) (b b' : Array Bool) : Prop where
  s1 : b.size = m
  s2 : b'.size = m
  at_ : ∀ i, i < m → ∀ d, b.getD i d = b'.getD (p.getD i m) d
theorem Seen.false {p : List Nat} {m : Nat} {b b' : Array Bool} (h : Seen p m b b') (hp : p.length = m) (j : Nat) : b'.getD (p.getD j j) false = b.getD j false := by
  rcases Nat.lt_or_ge j m with h1 | h1
  · rw [h.at_ j h1, getD_in (d := j) (d' := m) (by omega)]
  · rw [getD_out (by omega), Array.getD_eq_getD_getElem?, Array.getD_eq_getD_getElem?, Array.getElem?_eq_none (by rw [h.s2]; exact h1), Array.getElem?_eq_none (by rw [h.s1]; exact h1)]
theorem Seen.step {t p : List Nat} {m : Nat} (hp : Perm t p m) {b b' : Array Bool} (h : Seen p m b b') {i : Nat} (hi : i < m) : Seen p m (b.setIfInBounds i true) (b'.setIfInBounds (p.getD i m) true) := by
  refine ⟨by simp [h.s1], by simp [h.s2], fun j hj d => ?_⟩
  have h1 := hp.pl i hi
  rw [Array.getD_eq_getD_getElem?, Array.getD_eq_getD_getElem?, Array.getElem?_setIfInBounds, Array.getElem?_setIfInBounds]
  by_cases hij : i = j
  · subst hij; rw [if_pos rfl, if_pos rfl, h.s1, h.s2, if_pos hi, if_pos h1]
  · have hne : p.getD i m ≠ p.getD j m := fun g => hij (by rw [← hp.tp i hi, ← hp.tp j hj, g])
    rw [if_neg hij, if_neg hne, ← Array.getD_eq_getD_getElem?, ← Array.getD_eq_getD_getElem?, h.at_ j hj]
end Go.Proofs.Ytfiojlmccflplaa.D
end
