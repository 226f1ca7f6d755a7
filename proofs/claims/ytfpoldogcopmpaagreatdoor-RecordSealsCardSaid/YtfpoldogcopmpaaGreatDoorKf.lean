/-
 The proof's texts, joined, without what the statements do not reach: part 6 of 9. No condition.
-/
import Derived.Test.YtfpoldogcopmpaaGreatDoorCards
import Derived.Test.YtfpoldogcopmpaaGreatDoorTie
import Derived.WalkKit
import Derived.KernelRfl
import Derived.Lib.ConvBytes
import Derived.WalkSpells
import Derived.WalkLawsBesides
import Derived.ProofKit
import Derived.ChangeMaps5
import Derived.ChangeSlices
import Derived.Deep.Strs
import Derived.Handed
import Derived.LaidLaws
import Derived.LaidMore
import Derived.Lay
import Derived.SevenTiedAt
import Derived.Stop.Joined
import Derived.DataElems
import Derived.OpenShut
import Derived.Test.YtfpoldogcopmpaaGreatDoorProg
import Derived.Lib.TrimByte
import Derived.Shelf.Bits.Mul64
import Derived.Shelf.Small.Strs
import Derived.Shelf.Small.Utf8
import Derived.Shelf.Strings.AsciiSet
import Derived.Shelf.Strings.Builder1
import Derived.Shelf.Strings.Builder2
import Derived.Shelf.Strings.Builder2Cap
import Derived.Shelf.Strings.BuilderF
import Derived.Shelf.Strings.Prefix
import Derived.Shelf.Strings.Repeat
import Derived.Shelf.Strings.Runes
import Derived.Shelf.Strings.Search1
import Derived.Shelf.Strings.Trim
import Derived.Shelf.Unicode.Decode
import Derived.Shelf.Unicode.DecodeAny
import Derived.Shelf.Unicode.DecodeLast
import Derived.Shelf.Unicode.DecodeSlow
import Derived.Test.YtfpoldogcopmpaaGreatDoorKe
section
namespace Go.Proofs.YtfpoldogcopmpaaGreatDoor.Ch
open Go Go.RowKit D
set_option linter.unusedVariables false
set_option linter.unusedSimpArgs false
set_option maxRecDepth 100000
set_option maxHeartbeats 1000000
section
variable {w0 : World} {H : Hp}
theorem rolledR_con (x n : Int) (h : n = 16 ∨ n = 12 ∨ n = 8 ∨ n = 7) : Con Tryz.prog w0 94 #[.int .u32 x, .int .i64 n] H (fun v H' => v = .int .u32 (rotl x n) ∧ H' = H) := by
 refine Con.intro Tryz.func94 rfl rfl ?_
 refine AW.seq ?_
 refine AW.region ?_
 refine OpsW.q rfl (q_assign (v := .int _ _) rfl) ?_
 refine OpsW.nil ?_
 refine SeqP.go ?_
 refine AW.seq ?_
 refine AW.drawK [] 7 rfl (by kernel_rfl) ?_
 refine SeqK.q rfl (q_move (v := .int _ _) rfl) ?_
 refine SeqK.q rfl (q_move (v := .int _ _) rfl) ?_
 refine SeqK.q rfl (q_shl rfl rfl (by omega)) ?_
 refine SeqK.q rfl (q_move (v := .int _ _) rfl) ?_
 refine SeqK.q rfl (q_move (v := .int _ _) rfl) ?_
 refine SeqK.q rfl (q_subI rfl rfl (by omega)) ?_
 refine SeqK.q rfl (q_shr rfl rfl (by omega)) ?_
 refine SeqK.done ?_
 refine OpsW.q rfl (q_or rfl rfl) ?_
 refine OpsW.q rfl (q_assign (v := .int _ _) rfl) ?_
 refine OpsW.nil ?_
 refine SeqP.go ?_
 refine AW.ret ?_
 refine RetP.mk1 (H' := H) (v1 := .int _ _) rfl rfl  (by exact (Hp.le_refl _)) ?_
 exact ⟨by rw [← rolledR_eq h]; rfl, rfl⟩
theorem quarterR_con {bv sz cv : Nat} {el : TypeId} {a b c d : Int} (xs : List Int) (hl : xs.length = 16) (ha : 0 ≤ a ∧ a < 16) (hb : 0 ≤ b ∧ b < 16) (hc : 0 ≤ c ∧ c < 16) (hd : 0 ≤ d ∧ d < 16) :
  Con Tryz.prog w0 67 #[.slice (some ⟨bv, 0, none⟩) 16 cv, .int .i64 a, .int .i64 b, .int .i64 c, .int .i64 d] (H.set bv ⟨nums .u32 xs, sz, el⟩)
   (fun v H' => v = .tuple #[] ∧ H' = H.set bv ⟨nums .u32 (quarter xs a.toNat b.toNat c.toNat d.toNat), sz, el⟩) := by
 refine Con.intro Tryz.func67 rfl rfl ?_
 refine AW.seq ?_
 refine AW.drawK [] 11 rfl (by kernel_rfl) ?_
 refine SeqK.q rfl (q_move (v := .slice _ _ _) rfl) ?_
 refine SeqK.q rfl (q_move (v := .int _ _) rfl) ?_
 refine SeqK.q rfl (q_move (v := .slice _ _ _) rfl) ?_
 refine SeqK.q rfl (q_move (v := .int _ _) rfl) ?_
 refine SeqK.q rfl (q_indexAddrV0 Tryz.underlying101 (by kernel_rfl) rfl rfl (by omega) (by omega)) ?_
 refine SeqK.q rfl (q_loadN (by kernel_rfl) rfl (by exact Hp.set_self) (by omega)) ?_
 refine SeqK.q rfl (q_move (v := .slice _ _ _) rfl) ?_
 refine SeqK.q rfl (q_move (v := .int _ _) rfl) ?_
 refine SeqK.q rfl (q_indexAddrV0 Tryz.underlying101 (by kernel_rfl) rfl rfl (by omega) (by omega)) ?_
 refine SeqK.q rfl (q_loadN (by kernel_rfl) rfl (by exact Hp.set_self) (by omega)) ?_
 refine SeqK.q rfl (q_add rfl rfl) ?_
 refine SeqK.done ?_
 refine OpsW.q rfl (q_indexAddrV0 Tryz.underlying101 (by kernel_rfl) rfl rfl (by omega) (by omega)) ?_
 refine OpsW.s (o_storeN1 (by kernel_rfl) rfl rfl (by omega)) ?_
 refine OpsW.nil ?_
 refine SeqP.go ?_
 refine AW.seq ?_
 refine AW.drawK [] 12 rfl (by kernel_rfl) ?_
 refine SeqK.q rfl (q_move (v := .slice _ _ _) rfl) ?_
 refine SeqK.q rfl (q_move (v := .int _ _) rfl) ?_
 refine SeqK.q rfl (q_move (v := .slice _ _ _) rfl) ?_
 refine SeqK.q rfl (q_move (v := .int _ _) rfl) ?_
 refine SeqK.q rfl (q_indexAddrV0 Tryz.underlying101 (by kernel_rfl) rfl rfl (by omega) (by omega)) ?_
 refine SeqK.q rfl (q_loadN (by kernel_rfl) rfl (by exact Hp.set_self) (by simp only [nums_length, List.length_set, List.length_replicate, List.length_take, List.length_drop, List.length_append, List.length_cons, List.length_nil, ofB_length, toB_length]; omega)) ?_
 refine SeqK.q rfl (q_move (v := .slice _ _ _) rfl) ?_
 refine SeqK.q rfl (q_move (v := .int _ _) rfl) ?_
 refine SeqK.q rfl (q_indexAddrV0 Tryz.underlying101 (by kernel_rfl) rfl rfl (by omega) (by omega)) ?_
 refine SeqK.q rfl (q_loadN (by kernel_rfl) rfl (by exact Hp.set_self) (by simp only [nums_length, List.length_set, List.length_replicate, List.length_take, List.length_drop, List.length_append, List.length_cons, List.length_nil, ofB_length, toB_length]; omega)) ?_
 refine SeqK.q rfl (q_xor rfl rfl) ?_
 refine SeqK.q rfl (o_call rfl Tryz.func94 rfl rfl (rolledR_con _ _ (by omega))) ?_
 refine SeqK.done ?_
 refine OpsW.q rfl (q_indexAddrV0 Tryz.underlying101 (by kernel_rfl) rfl rfl (by omega) (by omega)) ?_
 refine OpsW.s (o_storeN1 (by kernel_rfl) rfl rfl (by simp only [nums_length, List.length_set, List.length_replicate, List.length_take, List.length_drop, List.length_append, List.length_cons, List.length_nil, ofB_length, toB_length]; omega)) ?_
 refine OpsW.nil ?_
 refine SeqP.go ?_
 refine AW.seq ?_
 refine AW.drawK [] 11 rfl (by kernel_rfl) ?_
 refine SeqK.q rfl (q_move (v := .slice _ _ _) rfl) ?_
 refine SeqK.q rfl (q_move (v := .int _ _) rfl) ?_
 refine SeqK.q rfl (q_move (v := .slice _ _ _) rfl) ?_
 refine SeqK.q rfl (q_move (v := .int _ _) rfl) ?_
 refine SeqK.q rfl (q_indexAddrV0 Tryz.underlying101 (by kernel_rfl) rfl rfl (by omega) (by omega)) ?_
 refine SeqK.q rfl (q_loadN (by kernel_rfl) rfl (by exact Hp.set_self) (by simp only [nums_length, List.length_set, List.length_replicate, List.length_take, List.length_drop, List.length_append, List.length_cons, List.length_nil, ofB_length, toB_length]; omega)) ?_
 refine SeqK.q rfl (q_move (v := .slice _ _ _) rfl) ?_
 refine SeqK.q rfl (q_move (v := .int _ _) rfl) ?_
 refine SeqK.q rfl (q_indexAddrV0 Tryz.underlying101 (by kernel_rfl) rfl rfl (by omega) (by omega)) ?_
 refine SeqK.q rfl (q_loadN (by kernel_rfl) rfl (by exact Hp.set_self) (by simp only [nums_length, List.length_set, List.length_replicate, List.length_take, List.length_drop, List.length_append, List.length_cons, List.length_nil, ofB_length, toB_length]; omega)) ?_
 refine SeqK.q rfl (q_add rfl rfl) ?_
 refine SeqK.done ?_
 refine OpsW.q rfl (q_indexAddrV0 Tryz.underlying101 (by kernel_rfl) rfl rfl (by omega) (by omega)) ?_
 refine OpsW.s (o_storeN1 (by kernel_rfl) rfl rfl (by simp only [nums_length, List.length_set, List.length_replicate, List.length_take, List.length_drop, List.length_append, List.length_cons, List.length_nil, ofB_length, toB_length]; omega)) ?_
 refine OpsW.nil ?_
 refine SeqP.go ?_
 refine AW.seq ?_
 refine AW.drawK [] 12 rfl (by kernel_rfl) ?_
 refine SeqK.q rfl (q_move (v := .slice _ _ _) rfl) ?_
 refine SeqK.q rfl (q_move (v := .int _ _) rfl) ?_
 refine SeqK.q rfl (q_move (v := .slice _ _ _) rfl) ?_
 refine SeqK.q rfl (q_move (v := .int _ _) rfl) ?_
 refine SeqK.q rfl (q_indexAddrV0 Tryz.underlying101 (by kernel_rfl) rfl rfl (by omega) (by omega)) ?_
 refine SeqK.q rfl (q_loadN (by kernel_rfl) rfl (by exact Hp.set_self) (by simp only [nums_length, List.length_set, List.length_replicate, List.length_take, List.length_drop, List.length_append, List.length_cons, List.length_nil, ofB_length, toB_length]; omega)) ?_
 refine SeqK.q rfl (q_move (v := .slice _ _ _) rfl) ?_
 refine SeqK.q rfl (q_move (v := .int _ _) rfl) ?_
 refine SeqK.q rfl (q_indexAddrV0 Tryz.underlying101 (by kernel_rfl) rfl rfl (by omega) (by omega)) ?_
 refine SeqK.q rfl (q_loadN (by kernel_rfl) rfl (by exact Hp.set_self) (by simp only [nums_length, List.length_set, List.length_replicate, List.length_take, List.length_drop, List.length_append, List.length_cons, List.length_nil, ofB_length, toB_length]; omega)) ?_
 refine SeqK.q rfl (q_xor rfl rfl) ?_
 refine SeqK.q rfl (o_call rfl Tryz.func94 rfl rfl (rolledR_con _ _ (by omega))) ?_
 refine SeqK.done ?_
 refine OpsW.q rfl (q_indexAddrV0 Tryz.underlying101 (by kernel_rfl) rfl rfl (by omega) (by omega)) ?_
 refine OpsW.s (o_storeN1 (by kernel_rfl) rfl rfl (by simp only [nums_length, List.length_set, List.length_replicate, List.length_take, List.length_drop, List.length_append, List.length_cons, List.length_nil, ofB_length, toB_length]; omega)) ?_
 refine OpsW.nil ?_
 refine SeqP.go ?_
 refine AW.seq ?_
 refine AW.drawK [] 11 rfl (by kernel_rfl) ?_
 refine SeqK.q rfl (q_move (v := .slice _ _ _) rfl) ?_
 refine SeqK.q rfl (q_move (v := .int _ _) rfl) ?_
 refine SeqK.q rfl (q_move (v := .slice _ _ _) rfl) ?_
 refine SeqK.q rfl (q_move (v := .int _ _) rfl) ?_
 refine SeqK.q rfl (q_indexAddrV0 Tryz.underlying101 (by kernel_rfl) rfl rfl (by omega) (by omega)) ?_
 refine SeqK.q rfl (q_loadN (by kernel_rfl) rfl (by exact Hp.set_self) (by simp only [nums_length, List.length_set, List.length_replicate, List.length_take, List.length_drop, List.length_append, List.length_cons, List.length_nil, ofB_length, toB_length]; omega)) ?_
 refine SeqK.q rfl (q_move (v := .slice _ _ _) rfl) ?_
 refine SeqK.q rfl (q_move (v := .int _ _) rfl) ?_
 refine SeqK.q rfl (q_indexAddrV0 Tryz.underlying101 (by kernel_rfl) rfl rfl (by omega) (by omega)) ?_
 refine SeqK.q rfl (q_loadN (by kernel_rfl) rfl (by exact Hp.set_self) (by simp only [nums_length, List.length_set, List.length_replicate, List.length_take, List.length_drop, List.length_append, List.length_cons, List.length_nil, ofB_length, toB_length]; omega)) ?_
 refine SeqK.q rfl (q_add rfl rfl) ?_
 refine SeqK.done ?_
 refine OpsW.q rfl (q_indexAddrV0 Tryz.underlying101 (by kernel_rfl) rfl rfl (by omega) (by omega)) ?_
 refine OpsW.s (o_storeN1 (by kernel_rfl) rfl rfl (by simp only [nums_length, List.length_set, List.length_replicate, List.length_take, List.length_drop, List.length_append, List.length_cons, List.length_nil, ofB_length, toB_length]; omega)) ?_
 refine OpsW.nil ?_
 refine SeqP.go ?_
 refine AW.seq ?_
 refine AW.drawK [] 12 rfl (by kernel_rfl) ?_
 refine SeqK.q rfl (q_move (v := .slice _ _ _) rfl) ?_
 refine SeqK.q rfl (q_move (v := .int _ _) rfl) ?_
 refine SeqK.q rfl (q_move (v := .slice _ _ _) rfl) ?_
 refine SeqK.q rfl (q_move (v := .int _ _) rfl) ?_
 refine SeqK.q rfl (q_indexAddrV0 Tryz.underlying101 (by kernel_rfl) rfl rfl (by omega) (by omega)) ?_
 refine SeqK.q rfl (q_loadN (by kernel_rfl) rfl (by exact Hp.set_self) (by simp only [nums_length, List.length_set, List.length_replicate, List.length_take, List.length_drop, List.length_append, List.length_cons, List.length_nil, ofB_length, toB_length]; omega)) ?_
 refine SeqK.q rfl (q_move (v := .slice _ _ _) rfl) ?_
 refine SeqK.q rfl (q_move (v := .int _ _) rfl) ?_
 refine SeqK.q rfl (q_indexAddrV0 Tryz.underlying101 (by kernel_rfl) rfl rfl (by omega) (by omega)) ?_
 refine SeqK.q rfl (q_loadN (by kernel_rfl) rfl (by exact Hp.set_self) (by simp only [nums_length, List.length_set, List.length_replicate, List.length_take, List.length_drop, List.length_append, List.length_cons, List.length_nil, ofB_length, toB_length]; omega)) ?_
 refine SeqK.q rfl (q_xor rfl rfl) ?_
 refine SeqK.q rfl (o_call rfl Tryz.func94 rfl rfl (rolledR_con _ _ (by omega))) ?_
 refine SeqK.done ?_
 refine OpsW.q rfl (q_indexAddrV0 Tryz.underlying101 (by kernel_rfl) rfl rfl (by omega) (by omega)) ?_
 refine OpsW.s (o_storeN1 (by kernel_rfl) rfl rfl (by simp only [nums_length, List.length_set, List.length_replicate, List.length_take, List.length_drop, List.length_append, List.length_cons, List.length_nil, ofB_length, toB_length]; omega)) ?_
 refine OpsW.nil ?_
 refine SeqP.go ?_
 refine AW.seq ?_
 refine AW.drawK [] 11 rfl (by kernel_rfl) ?_
 refine SeqK.q rfl (q_move (v := .slice _ _ _) rfl) ?_
 refine SeqK.q rfl (q_move (v := .int _ _) rfl) ?_
 refine SeqK.q rfl (q_move (v := .slice _ _ _) rfl) ?_
 refine SeqK.q rfl (q_move (v := .int _ _) rfl) ?_
 refine SeqK.q rfl (q_indexAddrV0 Tryz.underlying101 (by kernel_rfl) rfl rfl (by omega) (by omega)) ?_
 refine SeqK.q rfl (q_loadN (by kernel_rfl) rfl (by exact Hp.set_self) (by simp only [nums_length, List.length_set, List.length_replicate, List.length_take, List.length_drop, List.length_append, List.length_cons, List.length_nil, ofB_length, toB_length]; omega)) ?_
 refine SeqK.q rfl (q_move (v := .slice _ _ _) rfl) ?_
 refine SeqK.q rfl (q_move (v := .int _ _) rfl) ?_
 refine SeqK.q rfl (q_indexAddrV0 Tryz.underlying101 (by kernel_rfl) rfl rfl (by omega) (by omega)) ?_
 refine SeqK.q rfl (q_loadN (by kernel_rfl) rfl (by exact Hp.set_self) (by simp only [nums_length, List.length_set, List.length_replicate, List.length_take, List.length_drop, List.length_append, List.length_cons, List.length_nil, ofB_length, toB_length]; omega)) ?_
 refine SeqK.q rfl (q_add rfl rfl) ?_
 refine SeqK.done ?_
 refine OpsW.q rfl (q_indexAddrV0 Tryz.underlying101 (by kernel_rfl) rfl rfl (by omega) (by omega)) ?_
 refine OpsW.s (o_storeN1 (by kernel_rfl) rfl rfl (by simp only [nums_length, List.length_set, List.length_replicate, List.length_take, List.length_drop, List.length_append, List.length_cons, List.length_nil, ofB_length, toB_length]; omega)) ?_
 refine OpsW.nil ?_
 refine SeqP.go ?_
 refine AW.drawK [] 12 rfl (by kernel_rfl) ?_
 refine SeqK.q rfl (q_move (v := .slice _ _ _) rfl) ?_
 refine SeqK.q rfl (q_move (v := .int _ _) rfl) ?_
 refine SeqK.q rfl (q_move (v := .slice _ _ _) rfl) ?_
 refine SeqK.q rfl (q_move (v := .int _ _) rfl) ?_
 refine SeqK.q rfl (q_indexAddrV0 Tryz.underlying101 (by kernel_rfl) rfl rfl (by omega) (by omega)) ?_
 refine SeqK.q rfl (q_loadN (by kernel_rfl) rfl (by exact Hp.set_self) (by simp only [nums_length, List.length_set, List.length_replicate, List.length_take, List.length_drop, List.length_append, List.length_cons, List.length_nil, ofB_length, toB_length]; omega)) ?_
 refine SeqK.q rfl (q_move (v := .slice _ _ _) rfl) ?_
 refine SeqK.q rfl (q_move (v := .int _ _) rfl) ?_
 refine SeqK.q rfl (q_indexAddrV0 Tryz.underlying101 (by kernel_rfl) rfl rfl (by omega) (by omega)) ?_
 refine SeqK.q rfl (q_loadN (by kernel_rfl) rfl (by exact Hp.set_self) (by simp only [nums_length, List.length_set, List.length_replicate, List.length_take, List.length_drop, List.length_append, List.length_cons, List.length_nil, ofB_length, toB_length]; omega)) ?_
 refine SeqK.q rfl (q_xor rfl rfl) ?_
 refine SeqK.q rfl (o_call rfl Tryz.func94 rfl rfl (rolledR_con _ _ (by omega))) ?_
 refine SeqK.done ?_
 refine OpsW.q rfl (q_indexAddrV0 Tryz.underlying101 (by kernel_rfl) rfl rfl (by omega) (by omega)) ?_
 refine OpsW.s (o_storeN1 (by kernel_rfl) rfl rfl (by simp only [nums_length, List.length_set, List.length_replicate, List.length_take, List.length_drop, List.length_append, List.length_cons, List.length_nil, ofB_length, toB_length]; omega)) ?_
 refine OpsW.nil ?_
 refine RetP.end0 (H' := _) rfl (by exact (Hp.le_refl _)) ?_
 exact ⟨rfl, by unfold quarter; rfl⟩
theorem numbers_con (s : List UInt8) (m : Nat) (hs : s.length = 4 * m) (hm : m ≤ 1000) : Con Tryz.prog w0 66 #[S s] H (fun v H' => Grew H 100 1 nilV m (nums .u32 (words s m)) v H') := by
 refine Con.intro Tryz.func66 rfl rfl ?_
 refine AW.seq ?_
 refine AW.region ?_
 refine OpsW.q rfl (q_assign (v := .slice _ _ _) rfl) ?_
 refine OpsW.nil ?_
 refine SeqP.go ?_
 refine AW.seq ?_
 refine AW.region ?_
 refine OpsW.q rfl (q_assign (v := .slice _ _ _) rfl) ?_
 refine OpsW.nil ?_
 refine SeqP.go ?_
 refine AW.seq ?_
 refine AW.seq ?_
 refine AW.region ?_
 refine OpsW.q rfl (q_assign (v := .int _ _) rfl) ?_
 refine OpsW.nil ?_
 refine SeqP.go ?_
 refine AW.block ?_
 refine AW.loop (fun m e H' => ∃ (k : Nat) (v : Value) (e0 : Env), m = s.length - 4 * k ∧ (4 * k ≤ s.length) ∧ e = upds e0 [(0, S s), (3, v), (4, .int .i64 ((4 * k : Nat) : Int))] ∧ Grew H 100 1 nilV k (nums .u32 (words s k)) v H') _ ⟨0, nilV, _, rfl, (by omega), Slots.eq ⟨(by rfl), (by rfl), (by rfl),  trivial⟩, (by rw [words_zero]; exact Grew.nil)⟩ ?_
 rintro m _ H1 ⟨k, v, e0, rfl, hf, rfl, hG⟩
 have hwl := words_length s k
 refine AW.seq ?_
 refine AW.seq ?_
 refine AW.region ?_
 refine OpsW.q rfl (q_move (v := .int _ _) rfl) ?_
 refine OpsW.q rfl (q_move (v := S _) rfl) ?_
 refine OpsW.q rfl (q_lenS Tryz.underlying9 rfl) ?_
 refine OpsW.q rfl (q_lss rfl rfl) ?_
 refine OpsW.nil ?_
 refine SeqP.go ?_
 refine AW.cond2 rfl (fun h0 => ?_) (fun h0 => ?_)
 ·
  try simp only [z1, z2, z3, z4, z5, z6, z7, z8, z9, z10, z11, z12, z13, z14] at h0
  refine AW.exit ?_
  refine SeqP.exit ?_
  refine LoopP.exit ?_
  obtain rfl : k = m := by omega
  refine BlockP.here ?_
  refine SeqP.go ?_
  refine AW.seq ?_
  refine AW.region ?_
  refine OpsW.q rfl (q_move (v := v) rfl) ?_
  refine OpsW.q rfl (q_assign (v := v) rfl) ?_
  refine OpsW.nil ?_
  refine SeqP.go ?_
  refine AW.ret ?_
  refine RetP.mk1 (H' := H1) (v1 := v) rfl rfl  (by exact (Hp.le_refl _)) ?_
  exact hG
 try simp only [z1, z2, z3, z4, z5, z6, z7, z8, z9, z10, z11, z12, z13, z14] at h0
 refine AW.skip ?_
 refine SeqP.go ?_
 refine AW.seq ?_
 refine AW.block ?_
 refine AW.drawK [0] 26 rfl (by kernel_rfl) ?_
 refine SeqK.q rfl (q_move (v := v) rfl) ?_
 refine SeqK.q rfl (q_move (v := S _) rfl) ?_
 refine SeqK.q rfl (q_move (v := .int _ _) rfl) ?_
 refine SeqK.q rfl (q_indexS Tryz.underlying9 rfl rfl (by omega) (by omega)) ?_
 refine SeqK.q rfl (q_convInt rfl Tryz.underlying100 rfl) ?_
 refine SeqK.q rfl (q_move (v := S _) rfl) ?_
 refine SeqK.q rfl (q_move (v := .int _ _) rfl) ?_
 refine SeqK.q rfl (q_addI rfl rfl (by omega)) ?_
 refine SeqK.q rfl (q_indexS Tryz.underlying9 rfl rfl (by omega) (by omega)) ?_
 refine SeqK.q rfl (q_convInt rfl Tryz.underlying100 rfl) ?_
 refine SeqK.q rfl (q_shl rfl rfl (by omega)) ?_
 refine SeqK.q rfl (q_or rfl rfl) ?_
 refine SeqK.q rfl (q_move (v := S _) rfl) ?_
 refine SeqK.q rfl (q_move (v := .int _ _) rfl) ?_
 refine SeqK.q rfl (q_addI rfl rfl (by omega)) ?_
 refine SeqK.q rfl (q_indexS Tryz.underlying9 rfl rfl (by omega) (by omega)) ?_
 refine SeqK.q rfl (q_convInt rfl Tryz.underlying100 rfl) ?_
 refine SeqK.q rfl (q_shl rfl rfl (by omega)) ?_
 refine SeqK.q rfl (q_or rfl rfl) ?_
 refine SeqK.q rfl (q_move (v := S _) rfl) ?_
 refine SeqK.q rfl (q_move (v := .int _ _) rfl) ?_
 refine SeqK.q rfl (q_addI rfl rfl (by omega)) ?_
 refine SeqK.q rfl (q_indexS Tryz.underlying9 rfl rfl (by omega) (by omega)) ?_
 refine SeqK.q rfl (q_convInt rfl Tryz.underlying100 rfl) ?_
 refine SeqK.q rfl (q_shl rfl rfl (by omega)) ?_
 refine SeqK.q rfl (q_or rfl rfl) ?_
 refine SeqK.done ?_
 refine OpsW.m rfl (o_buildSlice (z := .int .u32 0) (vs := [.int _ _]) Tryz.underlying101 (by kernel_rfl) (by kernel_rfl) rfl (by rfl) (by rfl) (by decide) rfl (ones_all rfl)) ?_
 rintro _ _ ⟨b37, hb37, rfl, rfl⟩
 refine OpsW.m rfl (o_append (sz := 1) (by_ := 4) (z := .int .u32 0) Tryz.underlying101 (by kernel_rfl) (by kernel_rfl) (by kernel_rfl) rfl (by kernel_rfl) rfl rfl (hG.vec.le (by exact (Hp.le_set (by first | assumption | exact Hp.set_none (by assumption) (by first | assumption | exact Ne.symm (by assumption)) | exact Hp.set_none (Hp.set_none (by assumption) (by first | assumption | exact Ne.symm (by assumption))) (by first | assumption | exact Ne.symm (by assumption))) (Hp.le_refl _)))) (src_lit (by exact Hp.set_self) rfl (ones_all rfl)) (by unfold maxLen; omega) (by omega)) ?_
 rintro v38 H38 hA38
 obtain ⟨H38b, hl38, hB38⟩ := Grew.step hG (by exact (Hp.le_set (by first | assumption | exact Hp.set_none (by assumption) (by first | assumption | exact Ne.symm (by assumption)) | exact Hp.set_none (Hp.set_none (by assumption) (by first | assumption | exact Ne.symm (by assumption))) (by first | assumption | exact Ne.symm (by assumption))) (Hp.le_refl _))) hA38
 refine OpsW.forget hl38 ?_
 clear hA38 hl38
 refine OpsW.q rfl (q_assign (v := v38) rfl) ?_
 refine OpsW.nil ?_
 refine BlockP.go ?_
 refine SeqP.go ?_
 refine AW.region ?_
 refine OpsW.q rfl (q_move (v := .int _ _) rfl) ?_
 refine OpsW.q rfl (q_addI rfl rfl (by omega)) ?_
 refine OpsW.q rfl (q_assign (v := .int _ _) rfl) ?_
 refine OpsW.nil ?_
 exact LoopP.go _ (by omega) ⟨k + 1, v38, _, rfl, (by omega), Slots.eq ⟨(by rfl), (by rfl), (by rfl),  trivial⟩, (hB38.cast rfl (by rw [words_succ, nums_snoc, word_at]; simp only [show (((4 * k : Nat) : Int) + 1).toNat = 4 * k + 1 from by omega, show (((4 * k : Nat) : Int) + 2).toNat = 4 * k + 2 from by omega, show (((4 * k : Nat) : Int) + 3).toNat = 4 * k + 3 from by omega, Int.toNat_natCast]; rfl))⟩
theorem blockR_con (key nonce : List UInt8) (n : Int) : Con Tryz.prog w0 38 #[S key, S nonce, .int .i64 n] H
   (fun v H' => v = .tuple #[S (blockP key nonce n).1, .int .i64 (blockP key nonce n).2] ∧ H' = H) := by
 refine Con.intro Tryz.func38 rfl rfl ?_
 refine AW.seq ?_
 refine AW.region ?_
 refine OpsW.q rfl (q_assign (v := S _) rfl) ?_
 refine OpsW.q rfl (q_assign (v := .int _ _) rfl) ?_
 refine OpsW.nil ?_
 refine SeqP.go ?_
 refine AW.seq ?_
 refine AW.seq ?_
 refine AW.region ?_
 refine OpsW.q rfl (q_move (v := S _) rfl) ?_
 refine OpsW.q rfl (q_lenS Tryz.underlying9 rfl) ?_
 refine OpsW.q rfl (q_neq rfl rfl) ?_
 refine OpsW.qb rfl (q_move (v := .bool _) rfl) ?_
 intro b17 eb17
 refine OpsW.g rfl rfl rfl (fun hB => by simp only [Bool.and_eq_true, beq_iff_eq] at hB; obtain rfl := hB; exact (q_move (v := S _) rfl)) ?_
 refine OpsW.g rfl rfl rfl (fun hB => by simp only [Bool.and_eq_true, beq_iff_eq] at hB; obtain rfl := hB; exact (q_lenS Tryz.underlying9 rfl)) ?_
 refine OpsW.g rfl rfl rfl (fun hB => by simp only [Bool.and_eq_true, beq_iff_eq] at hB; obtain rfl := hB; exact (q_neq rfl rfl)) ?_
 refine OpsW.q rfl (q_or2 rfl rfl rfl) ?_
 refine OpsW.nil ?_
 refine SeqP.go ?_
 refine AW.cond rfl (fun h0 => ?_) (fun h0 => ?_)
 ·
  try simp only [eb17, z1, z2, z3, z4, z5, z6, z7, z8, z9, z10, z11, z12, z13, z14] at h0
  have hw : wrong key nonce n = 21 := wrong_key (by simp_all <;> omega)
  refine AW.seq ?_
  refine AW.region ?_
  refine OpsW.q rfl (q_assign (v := S _) rfl) ?_
  refine OpsW.q rfl (q_assign (v := .int _ _) rfl) ?_
  refine OpsW.nil ?_
  refine SeqP.go ?_
  refine AW.ret ?_
  refine SeqP.ret ?_
  refine RetP.mk2 (H' := H) (v1 := S _) (v2 := .int _ _) rfl rfl rfl  (by first | exact Hp.le_refl _ | exact Hp.le_trans (by first | exact (Hp.le_refl _) | exact (Hp.le_set (by first | assumption | exact Hp.set_none (by assumption) (by first | assumption | exact Ne.symm (by assumption)) | exact Hp.set_none (Hp.set_none (by assumption) (by first | assumption | exact Ne.symm (by assumption))) (by first | assumption | exact Ne.symm (by assumption))) (Hp.le_refl _)) | exact (Hp.le_set (by first | assumption | exact Hp.set_none (by assumption) (by first | assumption | exact Ne.symm (by assumption)) | exact Hp.set_none (Hp.set_none (by assumption) (by first | assumption | exact Ne.symm (by assumption))) (by first | assumption | exact Ne.symm (by assumption))) (Hp.le_set (by first | assumption | exact Hp.set_none (by assumption) (by first | assumption | exact Ne.symm (by assumption)) | exact Hp.set_none (Hp.set_none (by assumption) (by first | assumption | exact Ne.symm (by assumption))) (by first | assumption | exact Ne.symm (by assumption))) (Hp.le_refl _))) | exact (Hp.le_set (by first | assumption | exact Hp.set_none (by assumption) (by first | assumption | exact Ne.symm (by assumption)) | exact Hp.set_none (Hp.set_none (by assumption) (by first | assumption | exact Ne.symm (by assumption))) (by first | assumption | exact Ne.symm (by assumption))) (Hp.le_set (by first | assumption | exact Hp.set_none (by assumption) (by first | assumption | exact Ne.symm (by assumption)) | exact Hp.set_none (Hp.set_none (by assumption) (by first | assumption | exact Ne.symm (by assumption))) (by first | assumption | exact Ne.symm (by assumption))) (Hp.le_set (by first | assumption | exact Hp.set_none (by assumption) (by first | assumption | exact Ne.symm (by assumption)) | exact Hp.set_none (Hp.set_none (by assumption) (by first | assumption | exact Ne.symm (by assumption))) (by first | assumption | exact Ne.symm (by assumption))) (Hp.le_refl _)))) | exact (Hp.le_set (by first | assumption | exact Hp.set_none (by assumption) (by first | assumption | exact Ne.symm (by assumption)) | exact Hp.set_none (Hp.set_none (by assumption) (by first | assumption | exact Ne.symm (by assumption))) (by first | assumption | exact Ne.symm (by assumption))) (Hp.le_set (by first | assumption | exact Hp.set_none (by assumption) (by first | assumption | exact Ne.symm (by assumption)) | exact Hp.set_none (Hp.set_none (by assumption) (by first | assumption | exact Ne.symm (by assumption))) (by first | assumption | exact Ne.symm (by assumption))) (Hp.le_set (by first | assumption | exact Hp.set_none (by assumption) (by first | assumption | exact Ne.symm (by assumption)) | exact Hp.set_none (Hp.set_none (by assumption) (by first | assumption | exact Ne.symm (by assumption))) (by first | assumption | exact Ne.symm (by assumption))) (Hp.le_set (by first | assumption | exact Hp.set_none (by assumption) (by first | assumption | exact Ne.symm (by assumption)) | exact Hp.set_none (Hp.set_none (by assumption) (by first | assumption | exact Ne.symm (by assumption))) (by first | assumption | exact Ne.symm (by assumption))) (Hp.le_refl _))))) | exact (Hp.le_set (by first | assumption | exact Hp.set_none (by assumption) (by first | assumption | exact Ne.symm (by assumption)) | exact Hp.set_none (Hp.set_none (by assumption) (by first | assumption | exact Ne.symm (by assumption))) (by first | assumption | exact Ne.symm (by assumption))) (Hp.le_set (by first | assumption | exact Hp.set_none (by assumption) (by first | assumption | exact Ne.symm (by assumption)) | exact Hp.set_none (Hp.set_none (by assumption) (by first | assumption | exact Ne.symm (by assumption))) (by first | assumption | exact Ne.symm (by assumption))) (Hp.le_set (by first | assumption | exact Hp.set_none (by assumption) (by first | assumption | exact Ne.symm (by assumption)) | exact Hp.set_none (Hp.set_none (by assumption) (by first | assumption | exact Ne.symm (by assumption))) (by first | assumption | exact Ne.symm (by assumption))) (Hp.le_set (by first | assumption | exact Hp.set_none (by assumption) (by first | assumption | exact Ne.symm (by assumption)) | exact Hp.set_none (Hp.set_none (by assumption) (by first | assumption | exact Ne.symm (by assumption))) (by first | assumption | exact Ne.symm (by assumption))) (Hp.le_set (by first | assumption | exact Hp.set_none (by assumption) (by first | assumption | exact Ne.symm (by assumption)) | exact Hp.set_none (Hp.set_none (by assumption) (by first | assumption | exact Ne.symm (by assumption))) (by first | assumption | exact Ne.symm (by assumption))) (Hp.le_refl _))))))) hG.le) ?_
  exact ⟨by first | rw [blockP_bad (by rw [hw]; decide), hw] | (rw [blockP_ok hw, stirred_outR, List.take_of_length_le (by rw [outR_length]; exact Nat.le_refl _)]), rfl⟩
 try simp only [eb17, z1, z2, z3, z4, z5, z6, z7, z8, z9, z10, z11, z12, z13, z14] at h0
 have hk : key.length = 32 := by simp_all <;> omega
 have hn : nonce.length = 12 := by simp_all <;> omega
 refine AW.skip ?_
 refine SeqP.go ?_
 refine AW.seq ?_
 refine AW.seq ?_
 refine AW.region ?_
 refine OpsW.q rfl (q_move (v := .int _ _) rfl) ?_
 refine OpsW.q rfl (q_lss rfl rfl) ?_
 refine OpsW.qb rfl (q_move (v := .bool _) rfl) ?_
 intro b24 eb24
 refine OpsW.g rfl rfl rfl (fun hB => by simp only [Bool.and_eq_true, beq_iff_eq] at hB; obtain rfl := hB; exact (q_move (v := .int _ _) rfl)) ?_
 refine OpsW.g rfl rfl rfl (fun hB => by simp only [Bool.and_eq_true, beq_iff_eq] at hB; obtain rfl := hB; exact (q_gtr rfl rfl)) ?_
 refine OpsW.q rfl (q_or2 rfl rfl rfl) ?_
 refine OpsW.nil ?_
 refine SeqP.go ?_
 refine AW.cond rfl (fun h1 => ?_) (fun h1 => ?_)
 ·
  try simp only [eb17, eb24, z1, z2, z3, z4, z5, z6, z7, z8, z9, z10, z11, z12, z13, z14] at h1
  have hw : wrong key nonce n = 1 := wrong_arg hk hn (by simp_all <;> omega)
  refine AW.seq ?_
  refine AW.region ?_
  refine OpsW.q rfl (q_assign (v := S _) rfl) ?_
  refine OpsW.q rfl (q_assign (v := .int _ _) rfl) ?_
  refine OpsW.nil ?_
  refine SeqP.go ?_
  refine AW.ret ?_
  refine SeqP.ret ?_
  refine RetP.mk2 (H' := H) (v1 := S _) (v2 := .int _ _) rfl rfl rfl  (by first | exact Hp.le_refl _ | exact Hp.le_trans (by first | exact (Hp.le_refl _) | exact (Hp.le_set (by first | assumption | exact Hp.set_none (by assumption) (by first | assumption | exact Ne.symm (by assumption)) | exact Hp.set_none (Hp.set_none (by assumption) (by first | assumption | exact Ne.symm (by assumption))) (by first | assumption | exact Ne.symm (by assumption))) (Hp.le_refl _)) | exact (Hp.le_set (by first | assumption | exact Hp.set_none (by assumption) (by first | assumption | exact Ne.symm (by assumption)) | exact Hp.set_none (Hp.set_none (by assumption) (by first | assumption | exact Ne.symm (by assumption))) (by first | assumption | exact Ne.symm (by assumption))) (Hp.le_set (by first | assumption | exact Hp.set_none (by assumption) (by first | assumption | exact Ne.symm (by assumption)) | exact Hp.set_none (Hp.set_none (by assumption) (by first | assumption | exact Ne.symm (by assumption))) (by first | assumption | exact Ne.symm (by assumption))) (Hp.le_refl _))) | exact (Hp.le_set (by first | assumption | exact Hp.set_none (by assumption) (by first | assumption | exact Ne.symm (by assumption)) | exact Hp.set_none (Hp.set_none (by assumption) (by first | assumption | exact Ne.symm (by assumption))) (by first | assumption | exact Ne.symm (by assumption))) (Hp.le_set (by first | assumption | exact Hp.set_none (by assumption) (by first | assumption | exact Ne.symm (by assumption)) | exact Hp.set_none (Hp.set_none (by assumption) (by first | assumption | exact Ne.symm (by assumption))) (by first | assumption | exact Ne.symm (by assumption))) (Hp.le_set (by first | assumption | exact Hp.set_none (by assumption) (by first | assumption | exact Ne.symm (by assumption)) | exact Hp.set_none (Hp.set_none (by assumption) (by first | assumption | exact Ne.symm (by assumption))) (by first | assumption | exact Ne.symm (by assumption))) (Hp.le_refl _)))) | exact (Hp.le_set (by first | assumption | exact Hp.set_none (by assumption) (by first | assumption | exact Ne.symm (by assumption)) | exact Hp.set_none (Hp.set_none (by assumption) (by first | assumption | exact Ne.symm (by assumption))) (by first | assumption | exact Ne.symm (by assumption))) (Hp.le_set (by first | assumption | exact Hp.set_none (by assumption) (by first | assumption | exact Ne.symm (by assumption)) | exact Hp.set_none (Hp.set_none (by assumption) (by first | assumption | exact Ne.symm (by assumption))) (by first | assumption | exact Ne.symm (by assumption))) (Hp.le_set (by first | assumption | exact Hp.set_none (by assumption) (by first | assumption | exact Ne.symm (by assumption)) | exact Hp.set_none (Hp.set_none (by assumption) (by first | assumption | exact Ne.symm (by assumption))) (by first | assumption | exact Ne.symm (by assumption))) (Hp.le_set (by first | assumption | exact Hp.set_none (by assumption) (by first | assumption | exact Ne.symm (by assumption)) | exact Hp.set_none (Hp.set_none (by assumption) (by first | assumption | exact Ne.symm (by assumption))) (by first | assumption | exact Ne.symm (by assumption))) (Hp.le_refl _))))) | exact (Hp.le_set (by first | assumption | exact Hp.set_none (by assumption) (by first | assumption | exact Ne.symm (by assumption)) | exact Hp.set_none (Hp.set_none (by assumption) (by first | assumption | exact Ne.symm (by assumption))) (by first | assumption | exact Ne.symm (by assumption))) (Hp.le_set (by first | assumption | exact Hp.set_none (by assumption) (by first | assumption | exact Ne.symm (by assumption)) | exact Hp.set_none (Hp.set_none (by assumption) (by first | assumption | exact Ne.symm (by assumption))) (by first | assumption | exact Ne.symm (by assumption))) (Hp.le_set (by first | assumption | exact Hp.set_none (by assumption) (by first | assumption | exact Ne.symm (by assumption)) | exact Hp.set_none (Hp.set_none (by assumption) (by first | assumption | exact Ne.symm (by assumption))) (by first | assumption | exact Ne.symm (by assumption))) (Hp.le_set (by first | assumption | exact Hp.set_none (by assumption) (by first | assumption | exact Ne.symm (by assumption)) | exact Hp.set_none (Hp.set_none (by assumption) (by first | assumption | exact Ne.symm (by assumption))) (by first | assumption | exact Ne.symm (by assumption))) (Hp.le_set (by first | assumption | exact Hp.set_none (by assumption) (by first | assumption | exact Ne.symm (by assumption)) | exact Hp.set_none (Hp.set_none (by assumption) (by first | assumption | exact Ne.symm (by assumption))) (by first | assumption | exact Ne.symm (by assumption))) (Hp.le_refl _))))))) hG.le) ?_
  exact ⟨by first | rw [blockP_bad (by rw [hw]; decide), hw] | (rw [blockP_ok hw, stirred_outR, List.take_of_length_le (by rw [outR_length]; exact Nat.le_refl _)]), rfl⟩
 try simp only [eb17, eb24, z1, z2, z3, z4, z5, z6, z7, z8, z9, z10, z11, z12, z13, z14] at h1
 have hw : wrong key nonce n = 0 := wrong_none hk hn (by simp_all <;> omega)
 have hsl := started_length key nonce n
 refine AW.skip ?_
 refine SeqP.go ?_
 refine AW.seq ?_
 refine AW.region ?_
 refine OpsW.m rfl (o_buildSlice (z := .int .u32 0) (vs := [.int _ _, .int _ _, .int _ _, .int _ _]) Tryz.underlying101 (by kernel_rfl) (by kernel_rfl) rfl (by rfl) (by rfl) (by decide) rfl (ones_all rfl)) ?_
 rintro _ _ ⟨b28, hb28, rfl, rfl⟩
 have hB28 := Grew.made (el := 100) (m := 4) (cs := nums .u32 [1634760805, 857760878, 2036477234, 1797285236]) hb28 rfl (by decide)
 refine OpsW.q rfl (q_assign (v := .slice _ _ _) rfl) ?_
 refine OpsW.nil ?_
 refine SeqP.go ?_
 refine AW.seq ?_
 refine AW.region ?_
 refine OpsW.q rfl (q_move (v := .slice _ _ _) rfl) ?_
 refine OpsW.q rfl (q_move (v := S _) rfl) ?_
 refine OpsW.m rfl (o_call rfl Tryz.func66 rfl rfl (numbers_con _ 8 (by omega) (by omega))) ?_
 rintro v31 H31 hB31
 refine OpsW.m rfl (o_append (sz := 1) (by_ := 4) (z := .int .u32 0) Tryz.underlying101 (by kernel_rfl) (by kernel_rfl) (by kernel_rfl) rfl (by kernel_rfl) rfl rfl (hB28.vec.le hB31.le) (src_vec hB31.vec (nums_one _ _)) (by unfold maxLen; omega) (by omega)) ?_
 rintro v32 H32 hA32
 obtain ⟨H32b, hl32, hB32⟩ := Grew.step hB28 hB31.le hA32
 refine OpsW.forget hl32 ?_
 clear hA32 hl32
 refine OpsW.q rfl (q_assign (v := v32) rfl) ?_
 refine OpsW.nil ?_
 refine SeqP.go ?_
 refine AW.seq ?_
 refine AW.region ?_
 refine OpsW.q rfl (q_move (v := v32) rfl) ?_
 refine OpsW.q rfl (q_move (v := .int _ _) rfl) ?_
 refine OpsW.q rfl (q_convInt rfl Tryz.underlying100 rfl) ?_
 refine OpsW.m rfl (o_buildSlice (z := .int .u32 0) (vs := [.int _ _]) Tryz.underlying101 (by kernel_rfl) (by kernel_rfl) rfl (by rfl) (by rfl) (by decide) rfl (ones_all rfl)) ?_
 rintro _ _ ⟨b36, hb36, rfl, rfl⟩
 refine OpsW.m rfl (o_append (sz := 1) (by_ := 4) (z := .int .u32 0) Tryz.underlying101 (by kernel_rfl) (by kernel_rfl) (by kernel_rfl) rfl (by kernel_rfl) rfl rfl (hB32.vec.le (by exact (Hp.le_set (by first | assumption | exact Hp.set_none (by assumption) (by first | assumption | exact Ne.symm (by assumption)) | exact Hp.set_none (Hp.set_none (by assumption) (by first | assumption | exact Ne.symm (by assumption))) (by first | assumption | exact Ne.symm (by assumption))) (Hp.le_refl _)))) (src_lit (by exact Hp.set_self) rfl (ones_all rfl)) (by unfold maxLen; omega) (by omega)) ?_
 rintro v37 H37 hA37
 obtain ⟨H37b, hl37, hB37⟩ := Grew.step hB32 (by exact (Hp.le_set (by first | assumption | exact Hp.set_none (by assumption) (by first | assumption | exact Ne.symm (by assumption)) | exact Hp.set_none (Hp.set_none (by assumption) (by first | assumption | exact Ne.symm (by assumption))) (by first | assumption | exact Ne.symm (by assumption))) (Hp.le_refl _))) hA37
 refine OpsW.forget hl37 ?_
 clear hA37 hl37
 refine OpsW.q rfl (q_assign (v := v37) rfl) ?_
 refine OpsW.nil ?_
 refine SeqP.go ?_
 refine AW.seq ?_
 refine AW.region ?_
 refine OpsW.q rfl (q_move (v := v37) rfl) ?_
 refine OpsW.q rfl (q_move (v := S _) rfl) ?_
 refine OpsW.m rfl (o_call rfl Tryz.func66 rfl rfl (numbers_con _ 3 (by omega) (by omega))) ?_
 rintro v40 H40 hB40
 refine OpsW.m rfl (o_append (sz := 1) (by_ := 4) (z := .int .u32 0) Tryz.underlying101 (by kernel_rfl) (by kernel_rfl) (by kernel_rfl) rfl (by kernel_rfl) rfl rfl (hB37.vec.le hB40.le) (src_vec hB40.vec (nums_one _ _)) (by unfold maxLen; omega) (by omega)) ?_
 rintro v41 H41 hA41
 obtain ⟨H41b, hl41, hB41⟩ := Grew.step hB37 hB40.le hA41
 refine OpsW.forget hl41 ?_
 clear hA41 hl41
 obtain ⟨bf, cf, sf, rfl, hbf, rfl⟩ := (Grew.cast hB41 (cs' := nums .u32 (started key nonce n)) rfl (by rw [started_eq]; simp [nums, words_length] <;> rfl)).block (by decide)
 clear hB28 hB31 hB32 hB37 hB40 hB41
 refine OpsW.q rfl (q_assign (v := .slice _ _ _) rfl) ?_
 refine OpsW.nil ?_
 refine SeqP.go ?_
 refine AW.seq ?_
 refine AW.region ?_
 refine OpsW.q rfl (q_assign (v := .slice _ _ _) rfl) ?_
 refine OpsW.nil ?_
 refine SeqP.go ?_
 refine AW.seq ?_
 refine AW.region ?_
 refine OpsW.q rfl (q_move (v := .slice _ _ _) rfl) ?_
 refine OpsW.q rfl (q_move (v := .slice _ _ _) rfl) ?_
 refine OpsW.m rfl (o_append (sz := 1) (by_ := 4) (z := .int .u32 0) Tryz.underlying101 (by kernel_rfl) (by kernel_rfl) (by kernel_rfl) rfl (by kernel_rfl) rfl rfl (.inl ⟨rfl, rfl, rfl⟩) (src_lit (m := 16) (vs := nums .u32 (started key nonce n)) Hp.set_self (by rw [nums_length]; exact hsl) (nums_one _ _)) (by unfold maxLen; omega) (by omega)) ?_
 rintro v44 H44 hA44
 obtain ⟨bv, cv, sv, rfl, hbv, rfl⟩ := (Grew.cast hA44 (cs' := nums .u32 (started key nonce n)) rfl (by rw [List.nil_append])).block (by decide)
 clear hA44
 obtain ⟨hbv0, hvf⟩ := Hp.none_set hbv
 refine OpsW.q rfl (q_assign (v := .slice _ _ _) rfl) ?_
 refine OpsW.nil ?_
 refine SeqP.go ?_
 refine AW.seq ?_
 refine AW.seq ?_
 refine AW.region ?_
 refine OpsW.q rfl (q_assign (v := .int _ _) rfl) ?_
 refine OpsW.nil ?_
 refine SeqP.go ?_
 refine AW.block ?_
 refine AW.loop (fun m e H' => ∃ (i : Nat) (e0 : Env), m = 10 - i ∧ (i ≤ 10) ∧ e = upds e0 [(8, .slice (some ⟨bf, 0, none⟩) 16 cf), (9, .slice (some ⟨bv, 0, none⟩) 16 cv), (10, .int .i64 (i : Int))] ∧ H' = ((H.set bf ⟨nums .u32 (started key nonce n), sf, 100⟩).set bv ⟨nums .u32 (roundK (started key nonce n) i), sv, 100⟩)) _ ⟨0, _, rfl, (by omega), Slots.eq ⟨(by rfl), (by rfl), (by rfl),  trivial⟩, (by rw [roundK_zero])⟩ ?_
 rintro m _ _ ⟨i, e0, rfl, hf, rfl, rfl⟩
 have hr := roundK_length (started key nonce n) hsl i
 refine AW.seq ?_
 refine AW.seq ?_
 refine AW.region ?_
 refine OpsW.q rfl (q_move (v := .int _ _) rfl) ?_
 refine OpsW.q rfl (q_lss rfl rfl) ?_
 refine OpsW.nil ?_
 refine SeqP.go ?_
 refine AW.cond2 rfl (fun h2 => ?_) (fun h2 => ?_)
 ·
  try simp only [eb17, eb24, z1, z2, z3, z4, z5, z6, z7, z8, z9, z10, z11, z12, z13, z14] at h2
  refine AW.exit ?_
  refine SeqP.exit ?_
  refine LoopP.exit ?_
  obtain rfl : i = 10 := by omega
  refine BlockP.here ?_
  refine SeqP.go ?_
  refine AW.seq ?_
  refine AW.region ?_
  refine OpsW.q rfl (q_assign (v := .slice _ _ _) rfl) ?_
  refine OpsW.nil ?_
  refine SeqP.go ?_
  refine AW.seq ?_
  refine AW.seq ?_
  refine AW.region ?_
  refine OpsW.q rfl (q_assign (v := .int _ _) rfl) ?_
  refine OpsW.nil ?_
  refine SeqP.go ?_
  refine AW.block ?_
  refine AW.loop (fun m e H' => ∃ (i : Nat) (v : Value) (e0 : Env), m = 16 - i ∧ (i ≤ 16) ∧ e = upds e0 [(8, .slice (some ⟨bf, 0, none⟩) 16 cf), (9, .slice (some ⟨bv, 0, none⟩) 16 cv), (11, v), (12, .int .i64 (i : Int))] ∧ Grew ((H.set bf ⟨nums .u32 (started key nonce n), sf, 100⟩).set bv ⟨nums .u32 (roundK (started key nonce n) 10), sv, 100⟩) 5 1 nilV (4 * i) (nums .u8 (outR (started key nonce n) (4 * i))) v H') _ ⟨0, nilV, _, rfl, (by omega), Slots.eq ⟨(by rfl), (by rfl), (by rfl), (by rfl),  trivial⟩, (by rw [Nat.mul_zero, outR_zero]; exact Grew.nil)⟩ ?_
  rintro m _ H1 ⟨i, v, e0, rfl, hf, rfl, hG⟩
  have hbF : H1 bf = some _ := hG.old0 ((Hp.set_ne (Ne.symm hvf)).trans Hp.set_self)
  have hbV : H1 bv = some _ := hG.old0 Hp.set_self
  have hol := outR_length (started key nonce n) (4 * i)
  refine AW.seq ?_
  refine AW.seq ?_
  refine AW.region ?_
  refine OpsW.q rfl (q_move (v := .int _ _) rfl) ?_
  refine OpsW.q rfl (q_lss rfl rfl) ?_
  refine OpsW.nil ?_
  refine SeqP.go ?_
  refine AW.cond2 rfl (fun h3 => ?_) (fun h3 => ?_)
  ·
   try simp only [eb17, eb24, z1, z2, z3, z4, z5, z6, z7, z8, z9, z10, z11, z12, z13, z14] at h3
   refine AW.exit ?_
   refine SeqP.exit ?_
   refine LoopP.exit ?_
   obtain rfl : i = 16 := by omega
   refine BlockP.here ?_
   refine SeqP.go ?_
   refine AW.seq ?_
   refine AW.region ?_
   refine OpsW.q rfl (q_move (v := v) rfl) ?_
   refine OpsW.q rfl (q_stringV Tryz.underlying35 Tryz.underlying5 Tryz.underlying9 rfl hG.vec) ?_
   refine OpsW.q rfl (q_assign (v := S _) rfl) ?_
   refine OpsW.q rfl (q_assign (v := .int _ _) rfl) ?_
   refine OpsW.nil ?_
   refine SeqP.go ?_
   refine AW.ret ?_
   refine RetP.mk2 (H' := H) (v1 := S _) (v2 := .int _ _) rfl rfl rfl  (by first | exact Hp.le_refl _ | exact Hp.le_trans (by exact (Hp.le_set (by first | assumption | exact Hp.set_none (by assumption) (by first | assumption | exact Ne.symm (by assumption)) | exact Hp.set_none (Hp.set_none (by assumption) (by first | assumption | exact Ne.symm (by assumption))) (by first | assumption | exact Ne.symm (by assumption))) (Hp.le_set (by first | assumption | exact Hp.set_none (by assumption) (by first | assumption | exact Ne.symm (by assumption)) | exact Hp.set_none (Hp.set_none (by assumption) (by first | assumption | exact Ne.symm (by assumption))) (by first | assumption | exact Ne.symm (by assumption))) (Hp.le_refl _)))) hG.le) ?_
   exact ⟨by first | rw [blockP_bad (by rw [hw]; decide), hw] | (rw [blockP_ok hw, stirred_outR, List.take_of_length_le (by rw [outR_length]; exact Nat.le_refl _)]), rfl⟩
  try simp only [eb17, eb24, z1, z2, z3, z4, z5, z6, z7, z8, z9, z10, z11, z12, z13, z14] at h3
  refine AW.skip ?_
  refine SeqP.go ?_
  refine AW.seq ?_
  refine AW.block ?_
  refine AW.seq ?_
  refine AW.drawK [] 8 rfl (by kernel_rfl) ?_
  refine SeqK.q rfl (q_move (v := .slice _ _ _) rfl) ?_
  refine SeqK.q rfl (q_move (v := .int _ _) rfl) ?_
  refine SeqK.q rfl (q_indexAddrV0 Tryz.underlying101 (by kernel_rfl) rfl rfl (by omega) (by omega)) ?_
  refine SeqK.q rfl (q_loadN (by kernel_rfl) rfl (by exact (by assumption)) (by omega)) ?_
  refine SeqK.q rfl (q_move (v := .slice _ _ _) rfl) ?_
  refine SeqK.q rfl (q_move (v := .int _ _) rfl) ?_
  refine SeqK.q rfl (q_indexAddrV0 Tryz.underlying101 (by kernel_rfl) rfl rfl (by omega) (by omega)) ?_
  refine SeqK.q rfl (q_loadN (by kernel_rfl) rfl (by exact (by assumption)) (by omega)) ?_
  refine SeqK.done ?_
  refine OpsW.q rfl (q_add rfl rfl) ?_
  refine OpsW.q rfl (q_assign (v := .int _ _) rfl) ?_
  refine OpsW.nil ?_
  refine SeqP.go ?_
  refine AW.region ?_
  refine OpsW.q rfl (q_move (v := v) rfl) ?_
  refine OpsW.q rfl (q_move (v := .int _ _) rfl) ?_
  refine OpsW.q rfl (q_convInt rfl Tryz.underlying5 rfl) ?_
  refine OpsW.q rfl (q_move (v := .int _ _) rfl) ?_
  refine OpsW.q rfl (q_shr rfl rfl (by omega)) ?_
  refine OpsW.q rfl (q_convInt rfl Tryz.underlying5 rfl) ?_
  refine OpsW.q rfl (q_move (v := .int _ _) rfl) ?_
  refine OpsW.q rfl (q_shr rfl rfl (by omega)) ?_
  refine OpsW.q rfl (q_convInt rfl Tryz.underlying5 rfl) ?_
  refine OpsW.q rfl (q_move (v := .int _ _) rfl) ?_
  refine OpsW.q rfl (q_shr rfl rfl (by omega)) ?_
  refine OpsW.q rfl (q_convInt rfl Tryz.underlying5 rfl) ?_
  refine OpsW.m rfl (o_buildSlice (z := .int .u8 0) (vs := [.int _ _, .int _ _, .int _ _, .int _ _]) Tryz.underlying35 (by kernel_rfl) (by kernel_rfl) rfl (by rfl) (by rfl) (by decide) rfl (ones_all rfl)) ?_
  rintro _ _ ⟨b90, hb90, rfl, rfl⟩
  refine OpsW.m rfl (o_append (sz := 1) (by_ := 1) (z := .int .u8 0) Tryz.underlying35 (by kernel_rfl) (by kernel_rfl) (by kernel_rfl) rfl (by kernel_rfl) rfl rfl (hG.vec.le (by exact (Hp.le_set (by first | assumption | exact Hp.set_none (by assumption) (by first | assumption | exact Ne.symm (by assumption)) | exact Hp.set_none (Hp.set_none (by assumption) (by first | assumption | exact Ne.symm (by assumption))) (by first | assumption | exact Ne.symm (by assumption))) (Hp.le_refl _)))) (src_lit (by exact Hp.set_self) rfl (ones_all rfl)) (by unfold maxLen; omega) (by omega)) ?_
  rintro v91 H91 hA91
  obtain ⟨H91b, hl91, hB91⟩ := Grew.step hG (by exact (Hp.le_set (by first | assumption | exact Hp.set_none (by assumption) (by first | assumption | exact Ne.symm (by assumption)) | exact Hp.set_none (Hp.set_none (by assumption) (by first | assumption | exact Ne.symm (by assumption))) (by first | assumption | exact Ne.symm (by assumption))) (Hp.le_refl _))) hA91
  refine OpsW.forget hl91 ?_
  clear hA91 hl91
  refine OpsW.q rfl (q_assign (v := v91) rfl) ?_
  refine OpsW.nil ?_
  refine BlockP.go ?_
  refine SeqP.go ?_
  refine AW.region ?_
  refine OpsW.q rfl (q_move (v := .int _ _) rfl) ?_
  refine OpsW.q rfl (q_addI rfl rfl (by omega)) ?_
  refine OpsW.q rfl (q_assign (v := .int _ _) rfl) ?_
  refine OpsW.nil ?_
  exact LoopP.go _ (by omega) ⟨i + 1, v91, _, rfl, (by omega), Slots.eq ⟨(by rfl), (by rfl), (by rfl), (by rfl),  trivial⟩, (hB91.cast (by omega) (by rw [outR_succ4]; simp only [nums, List.map_append, List.map_cons, List.map_nil, Int.toNat_natCast]; rfl))⟩
 try simp only [eb17, eb24, z1, z2, z3, z4, z5, z6, z7, z8, z9, z10, z11, z12, z13, z14] at h2
 refine AW.skip ?_
 refine SeqP.go ?_
 refine AW.seq ?_
 refine AW.block ?_
 refine AW.seq ?_
 refine AW.region ?_
 refine OpsW.q rfl (q_move (v := .slice _ _ _) rfl) ?_
 refine OpsW.x rfl (o_call rfl Tryz.func67 rfl rfl (quarterR_con _ (by first | exact hr | (simp only [quarter_length]; exact hr)) (by omega) (by omega) (by omega) (by omega))) ?_
 refine OpsW.nil ?_
 refine SeqP.go ?_
 refine AW.seq ?_
 refine AW.region ?_
 refine OpsW.q rfl (q_move (v := .slice _ _ _) rfl) ?_
 refine OpsW.x rfl (o_call rfl Tryz.func67 rfl rfl (quarterR_con _ (by first | exact hr | (simp only [quarter_length]; exact hr)) (by omega) (by omega) (by omega) (by omega))) ?_
 refine OpsW.nil ?_
 refine SeqP.go ?_
 refine AW.seq ?_
 refine AW.region ?_
 refine OpsW.q rfl (q_move (v := .slice _ _ _) rfl) ?_
 refine OpsW.x rfl (o_call rfl Tryz.func67 rfl rfl (quarterR_con _ (by first | exact hr | (simp only [quarter_length]; exact hr)) (by omega) (by omega) (by omega) (by omega))) ?_
 refine OpsW.nil ?_
 refine SeqP.go ?_
 refine AW.seq ?_
 refine AW.region ?_
 refine OpsW.q rfl (q_move (v := .slice _ _ _) rfl) ?_
 refine OpsW.x rfl (o_call rfl Tryz.func67 rfl rfl (quarterR_con _ (by first | exact hr | (simp only [quarter_length]; exact hr)) (by omega) (by omega) (by omega) (by omega))) ?_
 refine OpsW.nil ?_
 refine SeqP.go ?_
 refine AW.seq ?_
 refine AW.region ?_
 refine OpsW.q rfl (q_move (v := .slice _ _ _) rfl) ?_
 refine OpsW.x rfl (o_call rfl Tryz.func67 rfl rfl (quarterR_con _ (by first | exact hr | (simp only [quarter_length]; exact hr)) (by omega) (by omega) (by omega) (by omega))) ?_
 refine OpsW.nil ?_
 refine SeqP.go ?_
 refine AW.seq ?_
 refine AW.region ?_
 refine OpsW.q rfl (q_move (v := .slice _ _ _) rfl) ?_
 refine OpsW.x rfl (o_call rfl Tryz.func67 rfl rfl (quarterR_con _ (by first | exact hr | (simp only [quarter_length]; exact hr)) (by omega) (by omega) (by omega) (by omega))) ?_
 refine OpsW.nil ?_
 refine SeqP.go ?_
 refine AW.seq ?_
 refine AW.region ?_
 refine OpsW.q rfl (q_move (v := .slice _ _ _) rfl) ?_
 refine OpsW.x rfl (o_call rfl Tryz.func67 rfl rfl (quarterR_con _ (by first | exact hr | (simp only [quarter_length]; exact hr)) (by omega) (by omega) (by omega) (by omega))) ?_
 refine OpsW.nil ?_
 refine SeqP.go ?_
 refine AW.region ?_
 refine OpsW.q rfl (q_move (v := .slice _ _ _) rfl) ?_
 refine OpsW.x rfl (o_call rfl Tryz.func67 rfl rfl (quarterR_con _ (by first | exact hr | (simp only [quarter_length]; exact hr)) (by omega) (by omega) (by omega) (by omega))) ?_
 refine OpsW.nil ?_
 refine BlockP.go ?_
 refine SeqP.go ?_
 refine AW.region ?_
 refine OpsW.q rfl (q_move (v := .int _ _) rfl) ?_
 refine OpsW.q rfl (q_addI rfl rfl (by omega)) ?_
 refine OpsW.q rfl (q_assign (v := .int _ _) rfl) ?_
 refine OpsW.nil ?_
 exact LoopP.go _ (by omega) ⟨i + 1, _, rfl, (by omega), Slots.eq ⟨(by rfl), (by rfl), (by rfl),  trivial⟩, (by rw [roundK_succ, ← roundR]; rfl)⟩
theorem xorR_con (key nonce : List UInt8) (n : Int) (data : List UInt8) (hd : data.length ≤ 1099511627776) : Con Tryz.prog w0 21 #[S key, S nonce, .int .i64 n, S data] H
   (fun v H' => v = .tuple #[S (xorRP key nonce n data).1, .int .i64 (xorRP key nonce n data).2] ∧ H' = H) := by
 refine Con.intro Tryz.func21 rfl rfl ?_
 refine AW.seq ?_
 refine AW.region ?_
 refine OpsW.q rfl (q_assign (v := S _) rfl) ?_
 refine OpsW.q rfl (q_assign (v := .int _ _) rfl) ?_
 refine OpsW.nil ?_
 refine SeqP.go ?_
 refine AW.seq ?_
 refine AW.region ?_
 refine OpsW.q rfl (q_move (v := S _) rfl) ?_
 refine OpsW.q rfl (q_move (v := S _) rfl) ?_
 refine OpsW.q rfl (q_move (v := .int _ _) rfl) ?_
 refine OpsW.x rfl (o_call rfl Tryz.func38 rfl rfl (blockR_con _ _ _)) ?_
 refine OpsW.q rfl (q_move (v := .tuple _) rfl) ?_
 refine OpsW.q rfl (q_extract (v := S _) rfl rfl) ?_
 refine OpsW.q rfl (q_extract (v := .int _ _) rfl rfl) ?_
 refine OpsW.q rfl (q_assign (v := S _) rfl) ?_
 refine OpsW.q rfl (q_assign (v := .int _ _) rfl) ?_
 refine OpsW.nil ?_
 refine SeqP.go ?_
 refine AW.seq ?_
 refine AW.seq ?_
 refine AW.region ?_
 refine OpsW.q rfl (q_move (v := .int _ _) rfl) ?_
 refine OpsW.q rfl (q_neq rfl rfl) ?_
 refine OpsW.nil ?_
 refine SeqP.go ?_
 refine AW.cond rfl (fun h0 => ?_) (fun h0 => ?_)
 ·
  try simp only [z1, z2, z3, z4, z5, z6, z7, z8, z9, z10, z11, z12, z13, z14] at h0
  rw [blockP_snd] at h0
  refine AW.seq ?_
  refine AW.region ?_
  refine OpsW.q rfl (q_move (v := .int _ _) rfl) ?_
  refine OpsW.q rfl (q_assign (v := S _) rfl) ?_
  refine OpsW.q rfl (q_assign (v := .int _ _) rfl) ?_
  refine OpsW.nil ?_
  refine SeqP.go ?_
  refine AW.ret ?_
  refine SeqP.ret ?_
  refine RetP.mk2 (H' := H) (v1 := S _) (v2 := .int _ _) rfl rfl rfl  (by first | exact Hp.le_refl _ | exact hG.le) ?_
  exact ⟨by first | rw [xorRP_bad h0, blockP_snd] | rw [xorRP_big h0 h1] | rw [xorRP_ok h0 h1], rfl⟩
 try simp only [z1, z2, z3, z4, z5, z6, z7, z8, z9, z10, z11, z12, z13, z14] at h0
 rw [blockP_snd] at h0
 obtain ⟨hk, hn, hn0, hn1⟩ := wrong_zero h0
 refine AW.skip ?_
 refine SeqP.go ?_
 refine AW.seq ?_
 refine AW.seq ?_
 refine AW.region ?_
 refine OpsW.q rfl (q_move (v := .int _ _) rfl) ?_
 refine OpsW.q rfl (q_move (v := S _) rfl) ?_
 refine OpsW.q rfl (q_lenS Tryz.underlying9 rfl) ?_
 refine OpsW.q rfl (q_addI rfl rfl (by omega)) ?_
 refine OpsW.q rfl (q_quoI rfl rfl (by omega)) ?_
 refine OpsW.q rfl (q_addI rfl rfl (by omega)) ?_
 refine OpsW.q rfl (q_gtr rfl rfl) ?_
 refine OpsW.nil ?_
 refine SeqP.go ?_
 refine AW.cond rfl (fun h1 => ?_) (fun h1 => ?_)
 ·
  try simp only [z1, z2, z3, z4, z5, z6, z7, z8, z9, z10, z11, z12, z13, z14] at h1
  refine AW.seq ?_
  refine AW.region ?_
  refine OpsW.q rfl (q_assign (v := S _) rfl) ?_
  refine OpsW.q rfl (q_assign (v := .int _ _) rfl) ?_
  refine OpsW.nil ?_
  refine SeqP.go ?_
  refine AW.ret ?_
  refine SeqP.ret ?_
  refine RetP.mk2 (H' := H) (v1 := S _) (v2 := .int _ _) rfl rfl rfl  (by first | exact Hp.le_refl _ | exact hG.le) ?_
  exact ⟨by first | rw [xorRP_bad h0, blockP_snd] | rw [xorRP_big h0 h1] | rw [xorRP_ok h0 h1], rfl⟩
 try simp only [z1, z2, z3, z4, z5, z6, z7, z8, z9, z10, z11, z12, z13, z14] at h1
 have hml : data.length ≤ maxLen := by unfold maxLen; omega
 refine AW.skip ?_
 refine SeqP.go ?_
 refine AW.seq ?_
 refine AW.region ?_
 refine OpsW.q rfl (q_assign (v := .slice _ _ _) rfl) ?_
 refine OpsW.nil ?_
 refine SeqP.go ?_
 refine AW.seq ?_
 refine AW.region ?_
 refine OpsW.q rfl (q_assign (v := S _) rfl) ?_
 refine OpsW.nil ?_
 refine SeqP.go ?_
 refine AW.seq ?_
 refine AW.seq ?_
 refine AW.region ?_
 refine OpsW.q rfl (q_assign (v := .int _ _) rfl) ?_
 refine OpsW.nil ?_
 refine SeqP.go ?_
 refine AW.block ?_
 refine AW.loop (fun m e H' => ∃ (i : Nat) (sK : List UInt8) (v : Value) (e0 : Env), m = data.length - i ∧ (i ≤ data.length ∧ (i % 64 ≠ 0 → sK = (blockP key nonce (n + ((i / 64 : Nat) : Int))).1)) ∧ e = upds e0 [(0, S key), (1, S nonce), (2, .int .i64 n), (3, S data), (12, v), (14, .int .i64 (i : Int)), (13, S sK)] ∧ Grew H 5 1 nilV i (nums .u8 (xorR key nonce n data i)) v H') _ ⟨0, [], nilV, _, rfl, ⟨Nat.zero_le _, fun h => absurd rfl h⟩, Slots.eq ⟨(by rfl), (by rfl), (by rfl), (by rfl), (by rfl), (by rfl), (by rfl),  trivial⟩, (by rw [xorR_zero]; exact Grew.nil)⟩ ?_
 rintro m _ H1 ⟨i, sK, v, e0, rfl, hf, rfl, hG⟩
 have hq : (i : Int) / 64 = ((i / 64 : Nat) : Int) := by omega
 have hxl := xorR_length key nonce n data i
 refine AW.seq ?_
 refine AW.seq ?_
 refine AW.region ?_
 refine OpsW.q rfl (q_move (v := .int _ _) rfl) ?_
 refine OpsW.q rfl (q_move (v := S _) rfl) ?_
 refine OpsW.q rfl (q_lenS Tryz.underlying9 rfl) ?_
 refine OpsW.q rfl (q_lss rfl rfl) ?_
 refine OpsW.nil ?_
 refine SeqP.go ?_
 refine AW.cond2 rfl (fun h2 => ?_) (fun h2 => ?_)
 ·
  try simp only [z1, z2, z3, z4, z5, z6, z7, z8, z9, z10, z11, z12, z13, z14] at h2
  refine AW.exit ?_
  refine SeqP.exit ?_
  refine LoopP.exit ?_
  obtain rfl : i = data.length := by omega
  refine BlockP.here ?_
  refine SeqP.go ?_
  refine AW.seq ?_
  refine AW.region ?_
  refine OpsW.q rfl (q_move (v := v) rfl) ?_
  refine OpsW.q rfl (q_stringV Tryz.underlying35 Tryz.underlying5 Tryz.underlying9 rfl hG.vec) ?_
  refine OpsW.q rfl (q_assign (v := S _) rfl) ?_
  refine OpsW.q rfl (q_assign (v := .int _ _) rfl) ?_
  refine OpsW.nil ?_
  refine SeqP.go ?_
  refine AW.ret ?_
  refine RetP.mk2 (H' := H) (v1 := S _) (v2 := .int _ _) rfl rfl rfl  (by first | exact Hp.le_refl _ | exact hG.le) ?_
  exact ⟨by first | rw [xorRP_bad h0, blockP_snd] | rw [xorRP_big h0 h1] | rw [xorRP_ok h0 h1], rfl⟩
 try simp only [z1, z2, z3, z4, z5, z6, z7, z8, z9, z10, z11, z12, z13, z14] at h2
 have hlen : (blockP key nonce (n + ((i / 64 : Nat) : Int))).1.length = 64 := blockP_len (wrong_shift h0 (by omega))
 refine AW.skip ?_
 refine SeqP.go ?_
 refine AW.seq ?_
 refine AW.block ?_
 refine AW.seq ?_
 refine AW.seq ?_
 refine AW.region ?_
 refine OpsW.q rfl (q_move (v := .int _ _) rfl) ?_
 refine OpsW.q rfl (q_remI rfl rfl (by omega)) ?_
 refine OpsW.q rfl (q_eql rfl rfl) ?_
 refine OpsW.nil ?_
 refine SeqP.go ?_
 refine AW.cond rfl (fun h3 => ?_) (fun h3 => ?_)
 ·
  try simp only [z1, z2, z3, z4, z5, z6, z7, z8, z9, z10, z11, z12, z13, z14] at h3
  have hsl : (blockP key nonce (n + (i : Int) / 64)).1.length = 64 := by rw [hq]; exact hlen
  refine AW.region ?_
  refine OpsW.q rfl (q_move (v := S _) rfl) ?_
  refine OpsW.q rfl (q_move (v := S _) rfl) ?_
  refine OpsW.q rfl (q_move (v := .int _ _) rfl) ?_
  refine OpsW.q rfl (q_move (v := .int _ _) rfl) ?_
  refine OpsW.q rfl (q_quoI rfl rfl (by omega)) ?_
  refine OpsW.q rfl (q_addI rfl rfl (by omega)) ?_
  refine OpsW.x rfl (o_call rfl Tryz.func38 rfl rfl (blockR_con _ _ _)) ?_
  refine OpsW.q rfl (q_move (v := .tuple _) rfl) ?_
  refine OpsW.q rfl (q_extract (v := S _) rfl rfl) ?_
  refine OpsW.q rfl (q_extract (v := .int _ _) rfl rfl) ?_
  generalize hsK : (blockP key nonce (n + (i : Int) / 64)).1 = sK2 at hsl ⊢
  refine OpsW.q rfl (q_assign (v := S _) rfl) ?_
  refine OpsW.nil ?_
  refine SeqP.go ?_
  refine AW.drawK [0] 9 rfl (by kernel_rfl) ?_
  refine SeqK.q rfl (q_move (v := v) rfl) ?_
  refine SeqK.q rfl (q_move (v := S _) rfl) ?_
  refine SeqK.q rfl (q_move (v := .int _ _) rfl) ?_
  refine SeqK.q rfl (q_indexS Tryz.underlying9 rfl rfl (by omega) (by omega)) ?_
  refine SeqK.q rfl (q_move (v := S _) rfl) ?_
  refine SeqK.q rfl (q_move (v := .int _ _) rfl) ?_
  refine SeqK.q rfl (q_remI rfl rfl (by omega)) ?_
  refine SeqK.q rfl (q_indexS Tryz.underlying9 rfl rfl (by omega) (by omega)) ?_
  refine SeqK.q rfl (q_xor rfl rfl) ?_
  refine SeqK.done ?_
  refine OpsW.m rfl (o_buildSlice (z := .int .u8 0) (vs := [.int _ _]) Tryz.underlying35 (by kernel_rfl) (by kernel_rfl) rfl (by rfl) (by rfl) (by decide) rfl (ones_all rfl)) ?_
  rintro _ _ ⟨b60, hb60, rfl, rfl⟩
  refine OpsW.m rfl (o_append (sz := 1) (by_ := 1) (z := .int .u8 0) Tryz.underlying35 (by kernel_rfl) (by kernel_rfl) (by kernel_rfl) rfl (by kernel_rfl) rfl rfl (hG.vec.le (by exact (Hp.le_set (by first | assumption | exact Hp.set_none (by assumption) (by first | assumption | exact Ne.symm (by assumption)) | exact Hp.set_none (Hp.set_none (by assumption) (by first | assumption | exact Ne.symm (by assumption))) (by first | assumption | exact Ne.symm (by assumption))) (Hp.le_refl _)))) (src_lit (by exact Hp.set_self) rfl (ones_all rfl)) (by omega) (by omega)) ?_
  rintro v61 H61 hA61
  obtain ⟨H61b, hl61, hB61⟩ := Grew.step hG (by exact (Hp.le_set (by first | assumption | exact Hp.set_none (by assumption) (by first | assumption | exact Ne.symm (by assumption)) | exact Hp.set_none (Hp.set_none (by assumption) (by first | assumption | exact Ne.symm (by assumption))) (by first | assumption | exact Ne.symm (by assumption))) (Hp.le_refl _))) hA61
  refine OpsW.forget hl61 ?_
  clear hA61 hl61
  refine OpsW.q rfl (q_assign (v := v61) rfl) ?_
  refine OpsW.nil ?_
  refine BlockP.go ?_
  refine SeqP.go ?_
  refine AW.region ?_
  refine OpsW.q rfl (q_move (v := .int _ _) rfl) ?_
  refine OpsW.q rfl (q_addI rfl rfl (by omega)) ?_
  refine OpsW.q rfl (q_assign (v := .int _ _) rfl) ?_
  refine OpsW.nil ?_
  exact LoopP.go _ (by omega) ⟨i + 1, sK2, v61, _, rfl, (by refine ⟨by omega, fun h => ?_⟩; rw [show (i + 1) / 64 = i / 64 from by omega]; first | exact hf.2 (by omega) | rw [← hsK, hq]), Slots.eq ⟨(by rfl), (by rfl), (by rfl), (by rfl), (by rfl), (by rfl), (by rfl),  trivial⟩, (hB61.cast rfl (by rw [nums_snoc, xorR_succ]; simp only [Int.toNat_natCast, show ((i : Int) % 64).toNat = i % 64 from by omega, hq]; first | rw [hf.2 (by omega)] | rw [← hsK, hq]))⟩
 try simp only [z1, z2, z3, z4, z5, z6, z7, z8, z9, z10, z11, z12, z13, z14] at h3
 have hsl : sK.length = 64 := by rw [hf.2 (by omega)]; exact hlen
 obtain ⟨sK2, rfl⟩ : ∃ z, z = sK := ⟨_, rfl⟩
 refine AW.skip ?_
 refine SeqP.go ?_
 refine AW.drawK [0] 9 rfl (by kernel_rfl) ?_
 refine SeqK.q rfl (q_move (v := v) rfl) ?_
 refine SeqK.q rfl (q_move (v := S _) rfl) ?_
 refine SeqK.q rfl (q_move (v := .int _ _) rfl) ?_
 refine SeqK.q rfl (q_indexS Tryz.underlying9 rfl rfl (by omega) (by omega)) ?_
 refine SeqK.q rfl (q_move (v := S _) rfl) ?_
 refine SeqK.q rfl (q_move (v := .int _ _) rfl) ?_
 refine SeqK.q rfl (q_remI rfl rfl (by omega)) ?_
 refine SeqK.q rfl (q_indexS Tryz.underlying9 rfl rfl (by omega) (by omega)) ?_
 refine SeqK.q rfl (q_xor rfl rfl) ?_
 refine SeqK.done ?_
 refine OpsW.m rfl (o_buildSlice (z := .int .u8 0) (vs := [.int _ _]) Tryz.underlying35 (by kernel_rfl) (by kernel_rfl) rfl (by rfl) (by rfl) (by decide) rfl (ones_all rfl)) ?_
 rintro _ _ ⟨b60, hb60, rfl, rfl⟩
 refine OpsW.m rfl (o_append (sz := 1) (by_ := 1) (z := .int .u8 0) Tryz.underlying35 (by kernel_rfl) (by kernel_rfl) (by kernel_rfl) rfl (by kernel_rfl) rfl rfl (hG.vec.le (by exact (Hp.le_set (by first | assumption | exact Hp.set_none (by assumption) (by first | assumption | exact Ne.symm (by assumption)) | exact Hp.set_none (Hp.set_none (by assumption) (by first | assumption | exact Ne.symm (by assumption))) (by first | assumption | exact Ne.symm (by assumption))) (Hp.le_refl _)))) (src_lit (by exact Hp.set_self) rfl (ones_all rfl)) (by omega) (by omega)) ?_
 rintro v61 H61 hA61
 obtain ⟨H61b, hl61, hB61⟩ := Grew.step hG (by exact (Hp.le_set (by first | assumption | exact Hp.set_none (by assumption) (by first | assumption | exact Ne.symm (by assumption)) | exact Hp.set_none (Hp.set_none (by assumption) (by first | assumption | exact Ne.symm (by assumption))) (by first | assumption | exact Ne.symm (by assumption))) (Hp.le_refl _))) hA61
 refine OpsW.forget hl61 ?_
 clear hA61 hl61
 refine OpsW.q rfl (q_assign (v := v61) rfl) ?_
 refine OpsW.nil ?_
 refine BlockP.go ?_
 refine SeqP.go ?_
 refine AW.region ?_
 refine OpsW.q rfl (q_move (v := .int _ _) rfl) ?_
 refine OpsW.q rfl (q_addI rfl rfl (by omega)) ?_
 refine OpsW.q rfl (q_assign (v := .int _ _) rfl) ?_
 refine OpsW.nil ?_
 exact LoopP.go _ (by omega) ⟨i + 1, sK2, v61, _, rfl, (by refine ⟨by omega, fun h => ?_⟩; rw [show (i + 1) / 64 = i / 64 from by omega]; first | exact hf.2 (by omega) | rw [← hsK, hq]), Slots.eq ⟨(by rfl), (by rfl), (by rfl), (by rfl), (by rfl), (by rfl), (by rfl),  trivial⟩, (hB61.cast rfl (by rw [nums_snoc, xorR_succ]; simp only [Int.toNat_natCast, show ((i : Int) % 64).toNat = i % 64 from by omega, hq]; first | rw [hf.2 (by omega)] | rw [← hsK, hq]))⟩
end
end Go.Proofs.YtfpoldogcopmpaaGreatDoor.Ch
end
section
namespace Go.Proofs.YtfpoldogcopmpaaGreatDoor.Po
open Go Go.RowKit D
set_option linter.unusedVariables false
set_option linter.unusedSimpArgs false
set_option maxRecDepth 100000
set_option maxHeartbeats 2000000
section
variable {w0 : World} {H : Hp} {H0 : Hp}
theorem word_con {b o n c sz : Nat} {el : TypeId} {xs : List Int} (hb : H b = some ⟨nums .u8 xs, sz, el⟩) (hn : 4 ≤ n) (ho : o + 4 ≤ xs.length) (hB : BytesL xs) : Con Tryz.prog w0 119 #[.slice (some ⟨b, o, none⟩) n c] H (fun v H' => v = .int .u64 (wd xs o) ∧ H' = H) := by
 have hS0 : Sep H [] H := Sep.refl
 refine Con.intro Tryz.func119 rfl rfl ?_
 refine AW.seq ?_
 refine AW.region ?_
 refine OpsW.q rfl (q_assign (v := .int _ _) rfl) ?_
 refine OpsW.nil ?_
 refine SeqP.go ?_
 refine AW.seq ?_
 refine AW.drawK [] 21 rfl (by kernel_rfl) ?_
 refine SeqK.q rfl (q_move (v := .slice _ _ _) rfl) ?_
 refine SeqK.q rfl (q_indexAddrV (sz := 1) Tryz.underlying35 (by kernel_rfl) rfl rfl (by omega) (by omega)) ?_
 refine SeqK.q rfl (q_loadN (by kernel_rfl) rfl hb (by show o + 0 < _; omega)) ?_
 refine SeqK.q rfl (q_convInt rfl Tryz.underlying108 rfl) ?_
 refine SeqK.q rfl (q_move (v := .slice _ _ _) rfl) ?_
 refine SeqK.q rfl (q_indexAddrV (sz := 1) Tryz.underlying35 (by kernel_rfl) rfl rfl (by omega) (by omega)) ?_
 refine SeqK.q rfl (q_loadN (by kernel_rfl) rfl hb (by show o + 1 < _; omega)) ?_
 refine SeqK.q rfl (q_convInt rfl Tryz.underlying108 rfl) ?_
 refine SeqK.q rfl (q_shlL 8 rfl rfl (by decide) rfl) ?_
 refine SeqK.q rfl (q_or rfl rfl) ?_
 refine SeqK.q rfl (q_move (v := .slice _ _ _) rfl) ?_
 refine SeqK.q rfl (q_indexAddrV (sz := 1) Tryz.underlying35 (by kernel_rfl) rfl rfl (by omega) (by omega)) ?_
 refine SeqK.q rfl (q_loadN (by kernel_rfl) rfl hb (by show o + 2 < _; omega)) ?_
 refine SeqK.q rfl (q_convInt rfl Tryz.underlying108 rfl) ?_
 refine SeqK.q rfl (q_shlL 16 rfl rfl (by decide) rfl) ?_
 refine SeqK.q rfl (q_or rfl rfl) ?_
 refine SeqK.q rfl (q_move (v := .slice _ _ _) rfl) ?_
 refine SeqK.q rfl (q_indexAddrV (sz := 1) Tryz.underlying35 (by kernel_rfl) rfl rfl (by omega) (by omega)) ?_
 refine SeqK.q rfl (q_loadN (by kernel_rfl) rfl hb (by show o + 3 < _; omega)) ?_
 refine SeqK.q rfl (q_convInt rfl Tryz.underlying108 rfl) ?_
 refine SeqK.q rfl (q_shlL 24 rfl rfl (by decide) rfl) ?_
 refine SeqK.done ?_
 refine OpsW.q rfl (q_or rfl rfl) ?_
 refine OpsW.q rfl (q_assign (v := .int _ _) rfl) ?_
 refine OpsW.nil ?_
 refine SeqP.go ?_
 refine AW.ret ?_
 refine RetP.mk1 (H' := H) (v1 := .int _ _) rfl rfl  hS0.le ?_
 exact ⟨congrArg (Value.int .u64) (word_eq (hB o) (hB (o + 1)) (hB (o + 2)) (hB (o + 3))), rfl⟩
theorem of_con {xs : List Int} (hl : xs.length = 17) (hB : BytesL xs) : Con Tryz.prog w0 104 #[.agg (nums .u8 xs).toArray] H (fun v H' => v = .agg (nums .u64 (ofL xs)).toArray ∧ H' = H) := by
 have hS0 : Sep H [] H := Sep.refl
 have r0 := wd_range hB 0
 have r3 := wd_range hB 3
 have r6 := wd_range hB 6
 have r9 := wd_range hB 9
 have r12 := wd_range hB 12
 refine Con.intro Tryz.func104 rfl rfl ?_
 refine AW.seq ?_
 refine AW.region ?_
 refine OpsW.m rfl (s_boxN (k := .u8) hS0 rfl) ?_
 rintro _ H1 ⟨b1, rfl, hS1⟩
 clear hS0
 refine OpsW.m rfl (s_allocN (k := .u64) (m := 5) hS1 (by kernel_rfl)) ?_
 rintro _ H2 ⟨b2, rfl, hS2⟩
 clear hS1
 refine OpsW.nil ?_
 refine SeqP.go ?_
 refine AW.seq ?_
 refine AW.drawK [] 23 rfl (by kernel_rfl) ?_
 refine SeqK.q rfl (q_sliceArr_lo (sz := 1) Tryz.underlying141 (by kernel_rfl) rfl rfl (by omega) (by omega)) ?_
 refine SeqK.q rfl (o_call rfl Tryz.func119 rfl rfl (word_con (o := 0) (hS2.blk at1) (by decide) (by rw [hl]; decide) hB)) ?_
 refine SeqK.q rfl (q_and rfl rfl) ?_
 rw [mask26 (by omega) (by omega)]
 refine SeqK.q rfl (q_sliceArr_lo (sz := 1) Tryz.underlying141 (by kernel_rfl) rfl rfl (by omega) (by omega)) ?_
 refine SeqK.q rfl (o_call rfl Tryz.func119 rfl rfl (word_con (o := 3) (hS2.blk at1) (by decide) (by rw [hl]; decide) hB)) ?_
 refine SeqK.q rfl (q_shrL 2 rfl rfl (by decide) rfl) ?_
 refine SeqK.q rfl (q_and rfl rfl) ?_
 rw [mask26 (by omega) (by omega)]
 refine SeqK.q rfl (q_sliceArr_lo (sz := 1) Tryz.underlying141 (by kernel_rfl) rfl rfl (by omega) (by omega)) ?_
 refine SeqK.q rfl (o_call rfl Tryz.func119 rfl rfl (word_con (o := 6) (hS2.blk at1) (by decide) (by rw [hl]; decide) hB)) ?_
 refine SeqK.q rfl (q_shrL 4 rfl rfl (by decide) rfl) ?_
 refine SeqK.q rfl (q_and rfl rfl) ?_
 rw [mask26 (by omega) (by omega)]
 refine SeqK.q rfl (q_sliceArr_lo (sz := 1) Tryz.underlying141 (by kernel_rfl) rfl rfl (by omega) (by omega)) ?_
 refine SeqK.q rfl (o_call rfl Tryz.func119 rfl rfl (word_con (o := 9) (hS2.blk at1) (by decide) (by rw [hl]; decide) hB)) ?_
 refine SeqK.q rfl (q_shrL 6 rfl rfl (by decide) rfl) ?_
 refine SeqK.q rfl (q_sliceArr_lo (sz := 1) Tryz.underlying141 (by kernel_rfl) rfl rfl (by omega) (by omega)) ?_
 refine SeqK.q rfl (o_call rfl Tryz.func119 rfl rfl (word_con (o := 12) (hS2.blk at1) (by decide) (by rw [hl]; decide) hB)) ?_
 refine SeqK.q rfl (q_shrL 8 rfl rfl (by decide) rfl) ?_
 refine SeqK.q rfl (q_and rfl rfl) ?_
 rw [mask26 (by omega) (by omega)]
 refine SeqK.q rfl (q_indexAddrA0 Tryz.underlying141 (by kernel_rfl) rfl rfl (by omega) (by omega)) ?_
 refine SeqK.q rfl (q_loadN (by kernel_rfl) rfl (hS2.blk at1) (by omega)) ?_
 rw [show xs.getD (Int.toNat 16) 0 = xs.getD 16 0 from rfl]
 refine SeqK.q rfl (q_convInt rfl Tryz.underlying108 rfl) ?_
 refine SeqK.q rfl (q_shlL 24 rfl rfl (by decide) rfl) ?_
 refine SeqK.q rfl (q_or rfl rfl) ?_
 rw [of_last hB]
 refine SeqK.done ?_
 refine OpsW.q rfl (q_buildN (k := .u64) [_, _, _, _, _] rfl (by kernel_rfl)) ?_
 refine OpsW.ms (s_storeA (n := 5) (k := .u64) hS2 at0 (by kernel_rfl) rfl rfl (by simp; done) (by rfl)) ?_
 rintro _ H3 ⟨rfl, hS3⟩
 clear hS2
 refine OpsW.nil ?_
 refine SeqP.go ?_
 refine AW.ret ?_
 refine RetP.mkc (m := 5) (H' := H) rfl rfl (hS3.blk at0) (by rfl) (by kernel_rfl) hS3.le ?_
 exact ⟨by unfold ofL; rfl, rfl⟩
theorem carry_con {b sz : Nat} {el : TypeId} {xs : List Int} (hS0 : Sep H0 [.blk b ⟨nums .u64 xs, sz, el⟩] H) (hl : xs.length = 5) : Con Tryz.prog w0 120 #[.pointer (some ⟨b, 0, none⟩)] H (fun v H' => v = .tuple #[] ∧ Sep H0 [.blk b ⟨nums .u64 (carR .u64 67108864 67108863 5 xs 2), sz, el⟩] H') := by
 refine Con.intro Tryz.func120 rfl rfl ?_
 refine AW.seq ?_
 refine AW.region ?_
 refine OpsW.q rfl (q_move (v := .int _ _) rfl) ?_
 refine OpsW.nil ?_
 refine SeqP.go ?_
 refine AW.block ?_
 refine AW.loop (fun m_ e_ H_ => ∃ (r : Nat) (e0 : Env), m_ = 2 - r ∧ (r ≤ 2) ∧ e_ = upds e0 [(0, .pointer (some ⟨b, 0, none⟩)), (4, .int .i64 (r : Int))] ∧ Sep H0 [.blk b ⟨nums .u64 ((carR .u64 67108864 67108863 5 xs r)), sz, el⟩] H_) _ ⟨0, _, rfl, (by omega), Slots.eq ⟨(by rfl), (by rfl),  trivial⟩, (by rw [carR_zero]; exact hS0)⟩ ?_
 rintro m_ _ Hl0 ⟨r, e0, rfl, hf, rfl, hSl0⟩
 try clear hS0
 have hl1 : (carR .u64 67108864 67108863 5 xs r).length = 5 := by rw [carR_length, hl]
 refine AW.seq ?_
 refine AW.region ?_
 refine OpsW.q rfl (q_lss rfl rfl) ?_
 refine OpsW.nil ?_
 refine SeqP.go ?_
 refine AW.seq ?_
 refine AW.cond2 rfl (fun h0 => ?_) (fun h0 => ?_)
 ·
  try simp only [z1, z2, z3, z4, z5, z6, z7, z8, z9, z10, z11, z12, z13, z14] at h0
  refine AW.exit ?_
  refine SeqP.exit ?_
  refine LoopP.exit ?_
  obtain rfl : r = 2 := by omega
  refine BlockP.here ?_
  refine RetP.end0 (H' := Hl0) rfl (Hp.le_refl _) ?_
  exact ⟨rfl, hSl0⟩
 try simp only [z1, z2, z3, z4, z5, z6, z7, z8, z9, z10, z11, z12, z13, z14] at h0
 refine AW.skip ?_
 refine SeqP.go ?_
 refine AW.seq ?_
 refine AW.block ?_
 refine AW.seq ?_
 refine AW.region ?_
 refine OpsW.q rfl (q_assign (v := .int _ _) rfl) ?_
 refine OpsW.nil ?_
 refine SeqP.go ?_
 refine AW.seq ?_
 refine AW.seq ?_
 refine AW.region ?_
 refine OpsW.q rfl (q_move (v := .int _ _) rfl) ?_
 refine OpsW.nil ?_
 refine SeqP.go ?_
 refine AW.block ?_
 refine AW.loop (fun m_ e_ H_ => ∃ (i : Nat) (e0 : Env), m_ = 5 - i ∧ (i ≤ 5) ∧ e_ = upds e0 [(0, .pointer (some ⟨b, 0, none⟩)), (2, .int .u64 (carK .u64 67108864 67108863 (carR .u64 67108864 67108863 5 xs r) i).2), (4, .int .i64 (r : Int)), (6, .int .i64 (i : Int))] ∧ Sep H0 [.blk b ⟨nums .u64 ((carK .u64 67108864 67108863 (carR .u64 67108864 67108863 5 xs r) i).1), sz, el⟩] H_) _ ⟨0, _, rfl, (by omega), Slots.eq ⟨(by rfl), (by rw [carK_zero]; rfl), (by rfl), (by rfl),  trivial⟩, (by rw [carK_zero]; exact hSl0)⟩ ?_
 rintro m_ _ Hl1 ⟨i, e0, rfl, hf, rfl, hSl1⟩
 try clear hSl0
 have hl2 : (carK .u64 67108864 67108863 (carR .u64 67108864 67108863 5 xs r) i).1.length = 5 := by rw [carK_length, hl1]
 refine AW.seq ?_
 refine AW.region ?_
 refine OpsW.q rfl (q_lss rfl rfl) ?_
 refine OpsW.nil ?_
 refine SeqP.go ?_
 refine AW.seq ?_
 refine AW.cond2 rfl (fun h1 => ?_) (fun h1 => ?_)
 ·
  try simp only [z1, z2, z3, z4, z5, z6, z7, z8, z9, z10, z11, z12, z13, z14] at h1
  refine AW.exit ?_
  refine SeqP.exit ?_
  refine LoopP.exit ?_
  obtain rfl : i = 5 := by omega
  refine BlockP.here ?_
  refine SeqP.go ?_
  refine AW.drawK [] 8 rfl (by kernel_rfl) ?_
  refine SeqK.q rfl (q_move (v := .pointer _) rfl) ?_
  refine SeqK.q rfl (q_nilCheck rfl) ?_
  refine SeqK.q rfl (q_indexAddrA0 Tryz.underlying139 (by kernel_rfl) rfl rfl (by omega) (by omega)) ?_
  refine SeqK.q rfl (q_loadN (by kernel_rfl) rfl (hSl1.blk at0) (by omega)) ?_
  refine SeqK.q rfl (q_move (v := .int _ _) rfl) ?_
  refine SeqK.q rfl (q_mul rfl rfl) ?_
  refine SeqK.q rfl (q_add rfl rfl) ?_
  refine SeqK.q rfl (q_nilCheck rfl) ?_
  refine SeqK.done ?_
  refine OpsW.q rfl (q_indexAddrA0 Tryz.underlying139 (by kernel_rfl) rfl rfl (by omega) (by omega)) ?_
  refine OpsW.ms (s_storeN hSl1 at0 (by kernel_rfl) rfl rfl (by omega)) ?_
  rintro _ H1 ⟨rfl, hS1⟩
  clear hSl1
  refine OpsW.nil ?_
  refine BlockP.go ?_
  refine SeqP.go ?_
  refine AW.region ?_
  refine OpsW.q rfl (q_addI rfl rfl (by omega)) ?_
  refine OpsW.q rfl (q_move (v := .int _ _) rfl) ?_
  refine OpsW.nil ?_
  exact LoopP.go _ (by omega) ⟨r + 1, _, rfl, (by omega), Slots.eq ⟨(by rfl), (by rfl),  trivial⟩, (by rw [carR_succ]; unfold car1; exact hS1)⟩
 try simp only [z1, z2, z3, z4, z5, z6, z7, z8, z9, z10, z11, z12, z13, z14] at h1
 refine AW.skip ?_
 refine SeqP.go ?_
 refine AW.seq ?_
 refine AW.block ?_
 refine AW.seq ?_
 refine AW.region ?_
 refine OpsW.q rfl (q_move (v := .int _ _) rfl) ?_
 refine OpsW.q rfl (q_assign (v := .int _ _) rfl) ?_
 refine OpsW.nil ?_
 refine SeqP.go ?_
 refine AW.seq ?_
 refine AW.drawK [] 8 rfl (by kernel_rfl) ?_
 refine SeqK.q rfl (q_move (v := .pointer _) rfl) ?_
 refine SeqK.q rfl (q_move (v := .int _ _) rfl) ?_
 refine SeqK.q rfl (q_nilCheck rfl) ?_
 refine SeqK.q rfl (q_indexAddrA0 Tryz.underlying139 (by kernel_rfl) rfl rfl (by omega) (by omega)) ?_
 refine SeqK.q rfl (q_loadN (by kernel_rfl) rfl (hSl1.blk at0) (by omega)) ?_
 refine SeqK.q rfl (q_move (v := .int _ _) rfl) ?_
 refine SeqK.q rfl (q_add rfl rfl) ?_
 refine SeqK.q rfl (q_nilCheck rfl) ?_
 refine SeqK.done ?_
 refine OpsW.q rfl (q_indexAddrA0 Tryz.underlying139 (by kernel_rfl) rfl rfl (by omega) (by omega)) ?_
 refine OpsW.ms (s_storeN hSl1 at0 (by kernel_rfl) rfl rfl (by omega)) ?_
 rintro _ H2 ⟨rfl, hS2⟩
 clear hSl1
 refine OpsW.nil ?_
 refine SeqP.go ?_
 refine AW.seq ?_
 refine AW.region ?_
 refine OpsW.q rfl (q_move (v := .pointer _) rfl) ?_
 refine OpsW.q rfl (q_move (v := .int _ _) rfl) ?_
 refine OpsW.q rfl (q_nilCheck rfl) ?_
 refine OpsW.q rfl (q_indexAddrA0 Tryz.underlying139 (by kernel_rfl) rfl rfl (by omega) (by omega)) ?_
 refine OpsW.q rfl (q_loadN (by kernel_rfl) rfl (hS2.blk at0) (by simp only [nums_length, List.length_set, List.length_replicate, List.length_take, List.length_drop, List.length_append, List.length_cons, List.length_nil, ofB_length, toB_length]; omega)) ?_
 refine OpsW.q rfl (q_shrL 26 rfl rfl (by decide) rfl) ?_
 refine OpsW.q rfl (q_assign (v := .int _ _) rfl) ?_
 refine OpsW.nil ?_
 refine SeqP.go ?_
 refine AW.drawK [] 7 rfl (by kernel_rfl) ?_
 refine SeqK.q rfl (q_move (v := .pointer _) rfl) ?_
 refine SeqK.q rfl (q_move (v := .int _ _) rfl) ?_
 refine SeqK.q rfl (q_nilCheck rfl) ?_
 refine SeqK.q rfl (q_indexAddrA0 Tryz.underlying139 (by kernel_rfl) rfl rfl (by omega) (by omega)) ?_
 refine SeqK.q rfl (q_loadN (by kernel_rfl) rfl (hS2.blk at0) (by simp only [nums_length, List.length_set, List.length_replicate, List.length_take, List.length_drop, List.length_append, List.length_cons, List.length_nil, ofB_length, toB_length]; omega)) ?_
 refine SeqK.q rfl (q_and rfl rfl) ?_
 refine SeqK.q rfl (q_nilCheck rfl) ?_
 refine SeqK.done ?_
 refine OpsW.q rfl (q_indexAddrA0 Tryz.underlying139 (by kernel_rfl) rfl rfl (by omega) (by omega)) ?_
 refine OpsW.ms (s_storeN hS2 at0 (by kernel_rfl) rfl rfl (by simp only [nums_length, List.length_set, List.length_replicate, List.length_take, List.length_drop, List.length_append, List.length_cons, List.length_nil, ofB_length, toB_length]; omega)) ?_
 rintro _ H3 ⟨rfl, hS3⟩
 clear hS2
 refine OpsW.nil ?_
 refine BlockP.go ?_
 refine SeqP.go ?_
 refine AW.region ?_
 refine OpsW.q rfl (q_addI rfl rfl (by omega)) ?_
 refine OpsW.q rfl (q_move (v := .int _ _) rfl) ?_
 refine OpsW.nil ?_
 exact LoopP.go _ (by omega) ⟨i + 1, _, rfl, (by omega), Slots.eq ⟨(by rfl), (by rw [carK_succ]; show Value.int .u64 (List.getD (List.set _ _ _) _ _ / _) = _; rw [getD_set_self (by rw [Int.toNat_natCast]; omega)]; rfl), (by rfl), (by rfl),  trivial⟩, (by rw [carK_succ]; have hs := hS3; rw [getD_set_self (by rw [Int.toNat_natCast]; omega), List.set_set] at hs; exact hs)⟩
theorem add_con {b sz : Nat} {el : TypeId} {xs : List Int} {ys : List Int} (hy : ys.length = 5) (hS0 : Sep H0 [.blk b ⟨nums .u64 xs, sz, el⟩] H) (hl : xs.length = 5) : Con Tryz.prog w0 103 #[.pointer (some ⟨b, 0, none⟩), .agg (nums .u64 ys).toArray] H (fun v H' => v = .tuple #[] ∧ Sep H0 [.blk b ⟨nums .u64 (addK .u64 xs ys 5), sz, el⟩] H') := by
 refine Con.intro Tryz.func103 rfl rfl ?_
 refine AW.seq ?_
 refine AW.region ?_
 refine OpsW.m rfl (s_boxN (k := .u64) hS0 rfl) ?_
 rintro _ H1 ⟨b3, rfl, hS1⟩
 clear hS0
 refine OpsW.nil ?_
 refine SeqP.go ?_
 refine AW.seq ?_
 refine AW.region ?_
 refine OpsW.q rfl (q_move (v := .int _ _) rfl) ?_
 refine OpsW.nil ?_
 refine SeqP.go ?_
 refine AW.block ?_
 refine AW.loop (fun m_ e_ H_ => ∃ (i : Nat) (e0 : Env), m_ = 5 - i ∧ (i ≤ 5) ∧ e_ = upds e0 [(0, .pointer (some ⟨b, 0, none⟩)), (3, .pointer (some ⟨b3, 0, none⟩)), (5, .int .i64 (i : Int))] ∧ Sep H0 [.blk b3 ⟨nums .u64 ys, ys.length, 139⟩, .blk b ⟨nums .u64 ((addK .u64 xs ys i)), sz, el⟩] H_) _ ⟨0, _, rfl, (by omega), Slots.eq ⟨(by rfl), (by rfl), (by rfl),  trivial⟩, (by rw [addK_zero]; exact hS1)⟩ ?_
 rintro m_ _ Hl0 ⟨i, e0, rfl, hf, rfl, hSl0⟩
 try clear hS1
 have hl2 : (addK .u64 xs ys i).length = 5 := by rw [addK_length, hl]
 refine AW.seq ?_
 refine AW.region ?_
 refine OpsW.q rfl (q_lss rfl rfl) ?_
 refine OpsW.nil ?_
 refine SeqP.go ?_
 refine AW.seq ?_
 refine AW.cond2 rfl (fun h0 => ?_) (fun h0 => ?_)
 ·
  try simp only [z1, z2, z3, z4, z5, z6, z7, z8, z9, z10, z11, z12, z13, z14] at h0
  refine AW.exit ?_
  refine SeqP.exit ?_
  refine LoopP.exit ?_
  obtain rfl : i = 5 := by omega
  refine BlockP.here ?_
  refine RetP.end0 (H' := Hl0) rfl (Hp.le_refl _) ?_
  exact ⟨rfl, hSl0.tail⟩
 try simp only [z1, z2, z3, z4, z5, z6, z7, z8, z9, z10, z11, z12, z13, z14] at h0
 refine AW.skip ?_
 refine SeqP.go ?_
 refine AW.seq ?_
 refine AW.block ?_
 refine AW.seq ?_
 refine AW.region ?_
 refine OpsW.q rfl (q_move (v := .int _ _) rfl) ?_
 refine OpsW.q rfl (q_assign (v := .int _ _) rfl) ?_
 refine OpsW.nil ?_
 refine SeqP.go ?_
 refine AW.drawK [] 10 rfl (by kernel_rfl) ?_
 refine SeqK.q rfl (q_move (v := .pointer _) rfl) ?_
 refine SeqK.q rfl (q_move (v := .int _ _) rfl) ?_
 refine SeqK.q rfl (q_nilCheck rfl) ?_
 refine SeqK.q rfl (q_indexAddrA0 Tryz.underlying139 (by kernel_rfl) rfl rfl (by omega) (by omega)) ?_
 refine SeqK.q rfl (q_loadN (by kernel_rfl) rfl (hSl0.blk at1) (by omega)) ?_
 refine SeqK.q rfl (q_move (v := .int _ _) rfl) ?_
 refine SeqK.q rfl (q_indexAddrA0 Tryz.underlying139 (by kernel_rfl) rfl rfl (by omega) (by omega)) ?_
 refine SeqK.q rfl (q_loadN (by kernel_rfl) rfl (hSl0.blk at0) (by omega)) ?_
 refine SeqK.q rfl (q_add rfl rfl) ?_
 refine SeqK.q rfl (q_nilCheck rfl) ?_
 refine SeqK.done ?_
 refine OpsW.q rfl (q_indexAddrA0 Tryz.underlying139 (by kernel_rfl) rfl rfl (by omega) (by omega)) ?_
 refine OpsW.ms (s_storeN hSl0 at1 (by kernel_rfl) rfl rfl (by omega)) ?_
 rintro _ H2 ⟨rfl, hS2⟩
 clear hSl0
 refine OpsW.nil ?_
 refine BlockP.go ?_
 refine SeqP.go ?_
 refine AW.region ?_
 refine OpsW.q rfl (q_addI rfl rfl (by omega)) ?_
 refine OpsW.q rfl (q_move (v := .int _ _) rfl) ?_
 refine OpsW.nil ?_
 exact LoopP.go _ (by omega) ⟨i + 1, _, rfl, (by omega), Slots.eq ⟨(by rfl), (by rfl), (by rfl),  trivial⟩, (by rw [addK_succ]; exact hS2)⟩
theorem times_con {b sz : Nat} {el : TypeId} {xs : List Int} {ys : List Int} (hy : ys.length = 5) (hS0 : Sep H0 [.blk b ⟨nums .u64 xs, sz, el⟩] H) (hl : xs.length = 5) : Con Tryz.prog w0 105 #[.pointer (some ⟨b, 0, none⟩), .agg (nums .u64 ys).toArray] H (fun v H' => v = .tuple #[] ∧ Sep H0 [.blk b ⟨nums .u64 (timesP xs ys), sz, el⟩] H') := by
 refine Con.intro Tryz.func105 rfl rfl ?_
 refine AW.seq ?_
 refine AW.region ?_
 refine OpsW.m rfl (s_boxN (k := .u64) hS0 rfl) ?_
 rintro _ H1 ⟨b3, rfl, hS1⟩
 clear hS0
 refine OpsW.nil ?_
 refine SeqP.go ?_
 refine AW.seq ?_
 refine AW.region ?_
 refine OpsW.m rfl (s_allocN (k := .u64) (m := 5) hS1 (by kernel_rfl)) ?_
 rintro _ H2 ⟨b4, rfl, hS2⟩
 clear hS1
 refine OpsW.nil ?_
 refine SeqP.go ?_
 refine AW.seq ?_
 refine AW.seq ?_
 refine AW.region ?_
 refine OpsW.q rfl (q_move (v := .pointer _) rfl) ?_
 refine OpsW.q rfl (q_move (v := .int _ _) rfl) ?_
 refine OpsW.nil ?_
 refine SeqP.go ?_
 refine AW.block ?_
 refine AW.loop (fun m_ e_ H_ => ∃ (i : Nat) (e0 : Env), m_ = 5 - i ∧ (i ≤ 5) ∧ e_ = upds e0 [(0, .pointer (some ⟨b, 0, none⟩)), (3, .pointer (some ⟨b3, 0, none⟩)), (4, .pointer (some ⟨b4, 0, none⟩)), (9, .pointer (some ⟨b, 0, none⟩)), (10, .int .i64 (i : Int))] ∧ Sep H0 [.blk b4 ⟨nums .u64 ((mulA .u64 5 xs ys i)), 5, 139⟩, .blk b3 ⟨nums .u64 ys, ys.length, 139⟩, .blk b ⟨nums .u64 xs, sz, el⟩] H_) _ ⟨0, _, rfl, (by omega), Slots.eq ⟨(by rfl), (by rfl), (by rfl), (by rfl), (by rfl),  trivial⟩, (by rw [mulA_zero]; exact hS2)⟩ ?_
 rintro m_ _ Hl0 ⟨i, e0, rfl, hf, rfl, hSl0⟩
 try clear hS2
 have hm1 : (mulA .u64 5 xs ys i).length = 5 := mulA_length _ _ _ _ _
 refine AW.seq ?_
 refine AW.region ?_
 refine OpsW.q rfl (q_lss rfl rfl) ?_
 refine OpsW.nil ?_
 refine SeqP.go ?_
 refine AW.seq ?_
 refine AW.cond2 rfl (fun h0 => ?_) (fun h0 => ?_)
 ·
  try simp only [z1, z2, z3, z4, z5, z6, z7, z8, z9, z10, z11, z12, z13, z14] at h0
  refine AW.exit ?_
  refine SeqP.exit ?_
  refine LoopP.exit ?_
  obtain rfl : i = 5 := by omega
  refine BlockP.here ?_
  refine SeqP.go ?_
  refine AW.seq ?_
  refine AW.region ?_
  obtain ⟨Hf3, le3, hA3, hB3⟩ := hSl0.framed at0
  refine OpsW.m rfl (o_call rfl Tryz.func120 rfl rfl (carry_con hA3 (by rw [mulA_length]))) ?_
  rintro _ H3 ⟨rfl, hR3⟩
  have hS3 := hB3 _ _ hR3
  clear hR3 hB3 hA3
  clear hSl0
  have hcl : (carR .u64 67108864 67108863 5 (mulA .u64 5 xs ys 5) 2).length = 5 := by rw [carR_length, mulA_length]
  refine OpsW.nil ?_
  refine SeqP.go ?_
  refine AW.region ?_
  refine OpsW.q rfl (q_move (v := .pointer _) rfl) ?_
  refine OpsW.q rfl (q_loadAN (n := 5) (k := .u64) (by kernel_rfl) rfl (hS3.blk at0) (by with_reducible assumption)) ?_
  refine OpsW.q rfl (q_nilCheck rfl) ?_
  refine OpsW.ms (s_storeA (n := 5) (k := .u64) hS3 at2 (by kernel_rfl) rfl rfl (by with_reducible assumption) (by simp only [nums_length, List.length_set, List.length_replicate, List.length_take, List.length_drop, List.length_append, List.length_cons, List.length_nil, ofB_length, toB_length]; omega)) ?_
  rintro _ H4 ⟨rfl, hS4⟩
  clear hS3
  refine OpsW.nil ?_
  refine RetP.end0 (H' := H4) rfl (Hp.le_refl _) ?_
  exact ⟨rfl, by unfold timesP; exact hS4.tail.tail⟩
 try simp only [z1, z2, z3, z4, z5, z6, z7, z8, z9, z10, z11, z12, z13, z14] at h0
 refine AW.skip ?_
 refine SeqP.go ?_
 refine AW.seq ?_
 refine AW.block ?_
 refine AW.seq ?_
 refine AW.drawK [] 5 rfl (by kernel_rfl) ?_
 refine SeqK.q rfl (q_move (v := .int _ _) rfl) ?_
 refine SeqK.q rfl (q_nilCheck rfl) ?_
 refine SeqK.q rfl (q_indexAddrA0 Tryz.underlying139 (by kernel_rfl) rfl rfl (by omega) (by omega)) ?_
 refine SeqK.q rfl (q_loadN (by kernel_rfl) rfl (hSl0.blk at2) (by omega)) ?_
 refine SeqK.q rfl (q_assign (v := .int _ _) rfl) ?_
 refine SeqK.done ?_
 refine OpsW.q rfl (q_assign (v := .int _ _) rfl) ?_
 refine OpsW.nil ?_
 refine SeqP.go ?_
 refine AW.seq ?_
 refine AW.region ?_
 refine OpsW.q rfl (q_loadAN (n := 5) (k := .u64) (by kernel_rfl) rfl (hSl0.blk at1) (by with_reducible assumption)) ?_
 refine OpsW.q rfl (q_move (v := .int _ _) rfl) ?_
 refine OpsW.nil ?_
 refine SeqP.go ?_
 refine AW.block ?_
 refine AW.loop (fun m_ e_ H_ => ∃ (j : Nat) (e0 : Env), m_ = 5 - j ∧ (j ≤ 5) ∧ e_ = upds e0 [(0, .pointer (some ⟨b, 0, none⟩)), (3, .pointer (some ⟨b3, 0, none⟩)), (4, .pointer (some ⟨b4, 0, none⟩)), (5, .int .i64 (i : Int)), (6, .int .u64 (xs.getD i 0)), (9, .pointer (some ⟨b, 0, none⟩)), (10, .int .i64 (i : Int)), (16, .agg (nums .u64 ys).toArray), (17, .int .i64 (j : Int))] ∧ Sep H0 [.blk b4 ⟨nums .u64 ((mulR .u64 5 (xs.getD i 0) ys (mulA .u64 5 xs ys i) i j)), 5, 139⟩, .blk b3 ⟨nums .u64 ys, ys.length, 139⟩, .blk b ⟨nums .u64 xs, sz, el⟩] H_) _ ⟨0, _, rfl, (by omega), Slots.eq ⟨(by rfl), (by rfl), (by rfl), (by rfl), (by rfl), (by rfl), (by rfl), (by rfl), (by rfl),  trivial⟩, (by rw [mulR_zero]; exact hSl0)⟩ ?_
 rintro m_ _ Hl1 ⟨j, e0, rfl, hf, rfl, hSl1⟩
 try clear hSl0
 have hm2 : (mulR .u64 5 (xs.getD i 0) ys (mulA .u64 5 xs ys i) i j).length = 5 := by rw [mulR_length, hm1]
 refine AW.seq ?_
 refine AW.region ?_
 refine OpsW.q rfl (q_lss rfl rfl) ?_
 refine OpsW.nil ?_
 refine SeqP.go ?_
 refine AW.seq ?_
 refine AW.cond2 rfl (fun h1 => ?_) (fun h1 => ?_)
 ·
  try simp only [z1, z2, z3, z4, z5, z6, z7, z8, z9, z10, z11, z12, z13, z14] at h1
  refine AW.exit ?_
  refine SeqP.exit ?_
  refine LoopP.exit ?_
  obtain rfl : j = 5 := by omega
  refine BlockP.here ?_
  refine BlockP.go ?_
  refine SeqP.go ?_
  refine AW.region ?_
  refine OpsW.q rfl (q_addI rfl rfl (by omega)) ?_
  refine OpsW.q rfl (q_move (v := .int _ _) rfl) ?_
  refine OpsW.nil ?_
  exact LoopP.go _ (by omega) ⟨i + 1, _, rfl, (by omega), Slots.eq ⟨(by rfl), (by rfl), (by rfl), (by rfl), (by rfl),  trivial⟩, (by rw [mulA_succ]; exact hSl1)⟩
 try simp only [z1, z2, z3, z4, z5, z6, z7, z8, z9, z10, z11, z12, z13, z14] at h1
 refine AW.skip ?_
 refine SeqP.go ?_
 refine AW.seq ?_
 refine AW.block ?_
 refine AW.seq ?_
 refine AW.region ?_
 refine OpsW.q rfl (q_move (v := .int _ _) rfl) ?_
 refine OpsW.q rfl (q_indexAN (k := .u64) Tryz.underlying139 (by kernel_rfl) (by kernel_rfl) rfl rfl (by omega) (by omega) (by with_reducible assumption)) ?_
 refine OpsW.q rfl (q_assign (v := .int _ _) rfl) ?_
 refine OpsW.q rfl (q_assign (v := .int _ _) rfl) ?_
 refine OpsW.nil ?_
 refine SeqP.go ?_
 refine AW.seq ?_
 refine AW.region ?_
 refine OpsW.q rfl (q_move (v := .int _ _) rfl) ?_
 refine OpsW.q rfl (q_move (v := .int _ _) rfl) ?_
 refine OpsW.q rfl (q_addI rfl rfl (by omega)) ?_
 refine OpsW.q rfl (q_lss rfl rfl) ?_
 refine OpsW.nil ?_
 refine SeqP.go ?_
 refine AW.cond rfl (fun h2 => ?_) (fun h2 => ?_)
 ·
  try simp only [z1, z2, z3, z4, z5, z6, z7, z8, z9, z10, z11, z12, z13, z14] at h2
  refine AW.region ?_
  refine OpsW.q rfl (q_move (v := .int _ _) rfl) ?_
  refine OpsW.q rfl (q_move (v := .int _ _) rfl) ?_
  refine OpsW.q rfl (q_addI rfl rfl (by omega)) ?_
  refine OpsW.q rfl (q_indexAddrA0 Tryz.underlying139 (by kernel_rfl) rfl rfl (by omega) (by omega)) ?_
  refine OpsW.q rfl (q_loadN (by kernel_rfl) rfl (hSl1.blk at0) (by omega)) ?_
  refine OpsW.q rfl (q_move (v := .int _ _) rfl) ?_
  refine OpsW.q rfl (q_move (v := .int _ _) rfl) ?_
  refine OpsW.q rfl (q_mul rfl rfl) ?_
  refine OpsW.q rfl (q_add rfl rfl) ?_
  refine OpsW.q rfl (q_indexAddrA0 Tryz.underlying139 (by kernel_rfl) rfl rfl (by omega) (by omega)) ?_
  refine OpsW.ms (s_storeN hSl1 at0 (by kernel_rfl) rfl rfl (by omega)) ?_
  rintro _ H5 ⟨rfl, hS5⟩
  clear hSl1
  refine OpsW.nil ?_
  refine BlockP.go ?_
  refine SeqP.go ?_
  refine AW.region ?_
  refine OpsW.q rfl (q_addI rfl rfl (by omega)) ?_
  refine OpsW.q rfl (q_move (v := .int _ _) rfl) ?_
  refine OpsW.nil ?_
  exact LoopP.go _ (by omega) ⟨j + 1, _, rfl, (by omega), Slots.eq ⟨(by rfl), (by rfl), (by rfl), (by rfl), (by rfl), (by rfl), (by rfl), (by rfl), (by rfl),  trivial⟩, (by rw [mulR_succ, mulC_lt (by omega)]; have hs := hS5; rw [show ((i : Int) + (j : Int)).toNat = i + j from by omega] at hs; exact hs)⟩
 try simp only [z1, z2, z3, z4, z5, z6, z7, z8, z9, z10, z11, z12, z13, z14] at h2
 refine AW.region ?_
 refine OpsW.q rfl (q_move (v := .int _ _) rfl) ?_
 refine OpsW.q rfl (q_move (v := .int _ _) rfl) ?_
 refine OpsW.q rfl (q_addI rfl rfl (by omega)) ?_
 refine OpsW.q rfl (q_subI rfl rfl (by omega)) ?_
 refine OpsW.q rfl (q_indexAddrA0 Tryz.underlying139 (by kernel_rfl) rfl rfl (by omega) (by omega)) ?_
 refine OpsW.q rfl (q_loadN (by kernel_rfl) rfl (hSl1.blk at0) (by omega)) ?_
 refine OpsW.q rfl (q_move (v := .int _ _) rfl) ?_
 refine OpsW.q rfl (q_mul rfl rfl) ?_
 refine OpsW.q rfl (q_move (v := .int _ _) rfl) ?_
 refine OpsW.q rfl (q_mul rfl rfl) ?_
 refine OpsW.q rfl (q_add rfl rfl) ?_
 refine OpsW.q rfl (q_indexAddrA0 Tryz.underlying139 (by kernel_rfl) rfl rfl (by omega) (by omega)) ?_
 refine OpsW.ms (s_storeN hSl1 at0 (by kernel_rfl) rfl rfl (by omega)) ?_
 rintro _ H6 ⟨rfl, hS6⟩
 clear hSl1
 refine OpsW.nil ?_
 refine BlockP.go ?_
 refine SeqP.go ?_
 refine AW.region ?_
 refine OpsW.q rfl (q_addI rfl rfl (by omega)) ?_
 refine OpsW.q rfl (q_move (v := .int _ _) rfl) ?_
 refine OpsW.nil ?_
 exact LoopP.go _ (by omega) ⟨j + 1, _, rfl, (by omega), Slots.eq ⟨(by rfl), (by rfl), (by rfl), (by rfl), (by rfl), (by rfl), (by rfl), (by rfl), (by rfl),  trivial⟩, (by rw [mulR_succ, mulC_ge (by omega)]; have hs := hS6; rw [show ((i : Int) + (j : Int) - 5).toNat = i + j - 5 from by omega] at hs; exact hs)⟩
theorem rest_con {b sz : Nat} {el : TypeId} {xs : List Int} (hS0 : Sep H0 [.blk b ⟨nums .u64 xs, sz, el⟩] H) (hl : xs.length = 5) : Con Tryz.prog w0 106 #[.pointer (some ⟨b, 0, none⟩)] H (fun v H' => v = .tuple #[] ∧ Sep H0 [.blk b ⟨nums .u64 (restP (carR .u64 67108864 67108863 5 xs 2)), sz, el⟩] H') := by
 obtain ⟨ys, hys⟩ : ∃ ys, ys = carR .u64 67108864 67108863 5 xs 2 := ⟨_, rfl⟩
 have hy : ys.length = 5 := by rw [hys, carR_length, hl]
 rw [← hys]
 refine Con.intro Tryz.func106 rfl rfl ?_
 refine AW.seq ?_
 refine AW.region ?_
 refine OpsW.q rfl (q_move (v := .pointer _) rfl) ?_
 obtain ⟨Hf1, le1, hA1, hB1⟩ := hS0.framed at0
 refine OpsW.m rfl (o_call rfl Tryz.func120 rfl rfl (carry_con hA1 hl)) ?_
 rintro _ H1 ⟨rfl, hR1⟩
 have hS1 := hB1 _ _ hR1
 clear hR1 hB1 hA1
 clear hS0
 rw [← hys] at hS1
 refine OpsW.nil ?_
 refine SeqP.go ?_
 refine AW.seq ?_
 refine AW.region ?_
 refine OpsW.q rfl (q_move (v := .pointer _) rfl) ?_
 refine OpsW.q rfl (q_nilCheck rfl) ?_
 refine OpsW.q rfl (q_loadAN (n := 5) (k := .u64) (by kernel_rfl) rfl (hS1.blk at0) (by with_reducible assumption)) ?_
 refine OpsW.m rfl (s_allocN (k := .u64) (m := 5) hS1 (by kernel_rfl)) ?_
 rintro _ H2 ⟨b2, rfl, hS2⟩
 clear hS1
 refine OpsW.ms (s_storeA (n := 5) (k := .u64) hS2 at0 (by kernel_rfl) rfl rfl (by with_reducible assumption) (by rfl)) ?_
 rintro _ H3 ⟨rfl, hS3⟩
 clear hS2
 refine OpsW.nil ?_
 refine SeqP.go ?_
 refine AW.seq ?_
 refine AW.region ?_
 refine OpsW.q rfl (q_indexAddrA0 Tryz.underlying139 (by kernel_rfl) rfl rfl (by omega) (by omega)) ?_
 refine OpsW.q rfl (q_loadN (by kernel_rfl) rfl (hS3.blk at0) (by omega)) ?_
 refine OpsW.q rfl (q_add rfl rfl) ?_
 refine OpsW.q rfl (q_indexAddrA0 Tryz.underlying139 (by kernel_rfl) rfl rfl (by omega) (by omega)) ?_
 refine OpsW.ms (s_storeN hS3 at0 (by kernel_rfl) rfl rfl (by omega)) ?_
 rintro _ H4 ⟨rfl, hS4⟩
 clear hS3
 refine OpsW.nil ?_
 refine SeqP.go ?_
 refine AW.seq ?_
 refine AW.seq ?_
 refine AW.region ?_
 refine OpsW.q rfl (q_move (v := .int _ _) rfl) ?_
 refine OpsW.nil ?_
 refine SeqP.go ?_
 refine AW.block ?_
 refine AW.loop (fun m_ e_ H_ => ∃ (i : Nat) (e0 : Env), m_ = 4 - i ∧ (i ≤ 4) ∧ e_ = upds e0 [(0, .pointer (some ⟨b, 0, none⟩)), (2, .pointer (some ⟨b2, 0, none⟩)), (13, .int .i64 (i : Int))] ∧ Sep H0 [.blk b2 ⟨nums .u64 ((restK ys i)), 5, 139⟩, .blk b ⟨nums .u64 ys, sz, el⟩] H_) _ ⟨0, _, rfl, (by omega), Slots.eq ⟨(by rfl), (by rfl), (by rfl),  trivial⟩, (by rw [restK_zero]; exact hS4)⟩ ?_
 rintro m_ _ Hl0 ⟨i, e0, rfl, hf, rfl, hSl0⟩
 try clear hS4
 have hr1 : (restK ys i).length = 5 := by rw [restK_length, hy]
 refine AW.seq ?_
 refine AW.region ?_
 refine OpsW.q rfl (q_lss rfl rfl) ?_
 refine OpsW.nil ?_
 refine SeqP.go ?_
 refine AW.seq ?_
 refine AW.cond2 rfl (fun h0 => ?_) (fun h0 => ?_)
 ·
  try simp only [z1, z2, z3, z4, z5, z6, z7, z8, z9, z10, z11, z12, z13, z14] at h0
  refine AW.exit ?_
  refine SeqP.exit ?_
  refine LoopP.exit ?_
  obtain rfl : i = 4 := by omega
  refine BlockP.here ?_
  refine SeqP.go ?_
  refine AW.seq ?_
  refine AW.region ?_
  refine OpsW.q rfl (q_indexAddrA0 Tryz.underlying139 (by kernel_rfl) rfl rfl (by omega) (by omega)) ?_
  refine OpsW.q rfl (q_loadN (by kernel_rfl) rfl (hSl0.blk at0) (by omega)) ?_
  refine OpsW.q rfl (q_shrL 26 rfl rfl (by decide) rfl) ?_
  refine OpsW.q rfl (q_gtr rfl rfl) ?_
  refine OpsW.nil ?_
  refine SeqP.go ?_
  refine AW.cond rfl (fun h1 => ?_) (fun h1 => ?_)
  ·
   try simp only [z1, z2, z3, z4, z5, z6, z7, z8, z9, z10, z11, z12, z13, z14] at h1
   rw [restP_yes (by simpa using h1)]
   refine AW.seq ?_
   refine AW.region ?_
   refine OpsW.q rfl (q_indexAddrA0 Tryz.underlying139 (by kernel_rfl) rfl rfl (by omega) (by omega)) ?_
   refine OpsW.q rfl (q_loadN (by kernel_rfl) rfl (hSl0.blk at0) (by omega)) ?_
   refine OpsW.q rfl (q_and rfl rfl) ?_
   refine OpsW.q rfl (q_indexAddrA0 Tryz.underlying139 (by kernel_rfl) rfl rfl (by omega) (by omega)) ?_
   refine OpsW.ms (s_storeN hSl0 at0 (by kernel_rfl) rfl rfl (by omega)) ?_
   rintro _ H5 ⟨rfl, hS5⟩
   clear hSl0
   refine OpsW.nil ?_
   refine SeqP.go ?_
   refine AW.region ?_
   refine OpsW.q rfl (q_move (v := .pointer _) rfl) ?_
   refine OpsW.q rfl (q_loadAN (n := 5) (k := .u64) (by kernel_rfl) rfl (hS5.blk at0) (by simp only [nums_length, List.length_set, List.length_replicate, List.length_take, List.length_drop, List.length_append, List.length_cons, List.length_nil, ofB_length, toB_length]; omega)) ?_
   refine OpsW.q rfl (q_nilCheck rfl) ?_
   refine OpsW.ms (s_storeA (n := 5) (k := .u64) hS5 at1 (by kernel_rfl) rfl rfl (by simp only [nums_length, List.length_set, List.length_replicate, List.length_take, List.length_drop, List.length_append, List.length_cons, List.length_nil, ofB_length, toB_length]; omega) (by simp only [nums_length, List.length_set, List.length_replicate, List.length_take, List.length_drop, List.length_append, List.length_cons, List.length_nil, ofB_length, toB_length]; omega)) ?_
   rintro _ H6 ⟨rfl, hS6⟩
   clear hS5
   refine OpsW.nil ?_
   refine RetP.end0 (H' := H6) rfl (Hp.le_refl _) ?_
   exact ⟨rfl, hS6.tail⟩
  try simp only [z1, z2, z3, z4, z5, z6, z7, z8, z9, z10, z11, z12, z13, z14] at h1
  rw [restP_no (by simpa using h1)]
  refine AW.skip ?_
  refine RetP.end0 (H' := Hl0) rfl (Hp.le_refl _) ?_
  exact ⟨rfl, hSl0.tail⟩
 try simp only [z1, z2, z3, z4, z5, z6, z7, z8, z9, z10, z11, z12, z13, z14] at h0
 refine AW.skip ?_
 refine SeqP.go ?_
 refine AW.seq ?_
 refine AW.block ?_
 refine AW.seq ?_
 refine AW.region ?_
 refine OpsW.q rfl (q_move (v := .int _ _) rfl) ?_
 refine OpsW.q rfl (q_assign (v := .int _ _) rfl) ?_
 refine OpsW.nil ?_
 refine SeqP.go ?_
 refine AW.seq ?_
 refine AW.drawK [] 8 rfl (by kernel_rfl) ?_
 refine SeqK.q rfl (q_move (v := .int _ _) rfl) ?_
 refine SeqK.q rfl (q_addI rfl rfl (by omega)) ?_
 refine SeqK.q rfl (q_indexAddrA0 Tryz.underlying139 (by kernel_rfl) rfl rfl (by omega) (by omega)) ?_
 refine SeqK.q rfl (q_loadN (by kernel_rfl) rfl (hSl0.blk at0) (by omega)) ?_
 refine SeqK.q rfl (q_move (v := .int _ _) rfl) ?_
 refine SeqK.q rfl (q_indexAddrA0 Tryz.underlying139 (by kernel_rfl) rfl rfl (by omega) (by omega)) ?_
 refine SeqK.q rfl (q_loadN (by kernel_rfl) rfl (hSl0.blk at0) (by omega)) ?_
 refine SeqK.q rfl (q_shrL 26 rfl rfl (by decide) rfl) ?_
 refine SeqK.done ?_
 refine OpsW.q rfl (q_add rfl rfl) ?_
 refine OpsW.q rfl (q_indexAddrA0 Tryz.underlying139 (by kernel_rfl) rfl rfl (by omega) (by omega)) ?_
 refine OpsW.ms (s_storeN hSl0 at0 (by kernel_rfl) rfl rfl (by omega)) ?_
 rintro _ H7 ⟨rfl, hS7⟩
 clear hSl0
 refine OpsW.nil ?_
 refine SeqP.go ?_
 refine AW.region ?_
 refine OpsW.q rfl (q_move (v := .int _ _) rfl) ?_
 refine OpsW.q rfl (q_indexAddrA0 Tryz.underlying139 (by kernel_rfl) rfl rfl (by omega) (by omega)) ?_
 refine OpsW.q rfl (q_loadN (by kernel_rfl) rfl (hS7.blk at0) (by simp only [nums_length, List.length_set, List.length_replicate, List.length_take, List.length_drop, List.length_append, List.length_cons, List.length_nil, ofB_length, toB_length]; omega)) ?_
 refine OpsW.q rfl (q_and rfl rfl) ?_
 refine OpsW.q rfl (q_indexAddrA0 Tryz.underlying139 (by kernel_rfl) rfl rfl (by omega) (by omega)) ?_
 refine OpsW.ms (s_storeN hS7 at0 (by kernel_rfl) rfl rfl (by simp only [nums_length, List.length_set, List.length_replicate, List.length_take, List.length_drop, List.length_append, List.length_cons, List.length_nil, ofB_length, toB_length]; omega)) ?_
 rintro _ H8 ⟨rfl, hS8⟩
 clear hS7
 refine OpsW.nil ?_
 refine BlockP.go ?_
 refine SeqP.go ?_
 refine AW.region ?_
 refine OpsW.q rfl (q_addI rfl rfl (by omega)) ?_
 refine OpsW.q rfl (q_move (v := .int _ _) rfl) ?_
 refine OpsW.nil ?_
 exact LoopP.go _ (by omega) ⟨i + 1, _, rfl, (by omega), Slots.eq ⟨(by rfl), (by rfl), (by rfl),  trivial⟩, (by rw [restK_succ]; unfold restS; have hs := hS8; rw [show ((i : Int) + 1).toNat = i + 1 from by omega] at hs; exact hs)⟩
theorem bytes_con {V : Nat} : Con Tryz.prog w0 107 #[.agg (nums .u64 (grps 26 5 130 V)).toArray] H (fun v H' => v = .agg (nums .u8 (grps 8 16 128 V)).toArray ∧ H' = H) := by
 have hS0 : Sep H [] H := Sep.refl
 have hg5 := grps_length 26 5 130 V
 refine Con.intro Tryz.func107 rfl rfl ?_
 refine AW.seq ?_
 refine AW.region ?_
 refine OpsW.m rfl (s_boxN (k := .u64) hS0 rfl) ?_
 rintro _ H1 ⟨b1, rfl, hS1⟩
 clear hS0
 refine OpsW.m rfl (s_allocN (k := .u8) (m := 16) hS1 (by kernel_rfl)) ?_
 rintro _ H2 ⟨b2, rfl, hS2⟩
 clear hS1
 refine OpsW.nil ?_
 refine SeqP.go ?_
 refine AW.seq ?_
 refine AW.region ?_
 refine OpsW.m rfl (s_allocN (k := .u8) (m := 16) hS2 (by kernel_rfl)) ?_
 rintro _ H3 ⟨b3, rfl, hS3⟩
 clear hS2
 refine OpsW.nil ?_
 refine SeqP.go ?_
 refine AW.seq ?_
 refine AW.seq ?_
 refine AW.region ?_
 refine OpsW.q rfl (q_move (v := .int _ _) rfl) ?_
 refine OpsW.nil ?_
 refine SeqP.go ?_
 refine AW.block ?_
 refine AW.loop (fun m_ e_ H_ => ∃ (i : Nat) (e0 : Env), m_ = 128 - i ∧ (i ≤ 128) ∧ e_ = upds e0 [(1, .pointer (some ⟨b1, 0, none⟩)), (2, .pointer (some ⟨b2, 0, none⟩)), (3, .pointer (some ⟨b3, 0, none⟩)), (5, .int .i64 (i : Int))] ∧ Sep H [.blk b3 ⟨nums .u8 ((grps 8 16 i V)), 16, 144⟩, .blk b2 ⟨nums .u8 ((List.replicate 16 0)), 16, 144⟩, .blk b1 ⟨nums .u64 ((grps 26 5 130 V)), (grps 26 5 130 V).length, 139⟩] H_) _ ⟨0, _, rfl, (by omega), Slots.eq ⟨(by rfl), (by rfl), (by rfl), (by rfl),  trivial⟩, (by rw [grps_zero]; exact hS3)⟩ ?_
 rintro m_ _ Hl0 ⟨i, e0, rfl, hf, rfl, hSl0⟩
 try clear hS3
 have hg16 := grps_length 8 16 i V
 refine AW.seq ?_
 refine AW.region ?_
 refine OpsW.q rfl (q_lss rfl rfl) ?_
 refine OpsW.nil ?_
 refine SeqP.go ?_
 refine AW.seq ?_
 refine AW.cond2 rfl (fun h0 => ?_) (fun h0 => ?_)
 ·
  try simp only [z1, z2, z3, z4, z5, z6, z7, z8, z9, z10, z11, z12, z13, z14] at h0
  refine AW.exit ?_
  refine SeqP.exit ?_
  refine LoopP.exit ?_
  obtain rfl : i = 128 := by omega
  refine BlockP.here ?_
  refine SeqP.go ?_
  refine AW.seq ?_
  refine AW.region ?_
  refine OpsW.q rfl (q_loadAN (n := 16) (k := .u8) (by kernel_rfl) rfl (hSl0.blk at0) (by with_reducible assumption)) ?_
  refine OpsW.ms (s_storeA (n := 16) (k := .u8) hSl0 at1 (by kernel_rfl) rfl rfl (by with_reducible assumption) (by rfl)) ?_
  rintro _ H4 ⟨rfl, hS4⟩
  clear hSl0
  refine OpsW.nil ?_
  refine SeqP.go ?_
  refine AW.ret ?_
  refine RetP.mkc (m := 16) (H' := H) rfl rfl (hS4.blk at1) (by simp only [nums_length, List.length_set, List.length_replicate, List.length_take, List.length_drop, List.length_append, List.length_cons, List.length_nil, ofB_length, toB_length]; omega) (by kernel_rfl) hS4.le ?_
  exact ⟨rfl, rfl⟩
 try simp only [z1, z2, z3, z4, z5, z6, z7, z8, z9, z10, z11, z12, z13, z14] at h0
 refine AW.skip ?_
 refine SeqP.go ?_
 refine AW.seq ?_
 refine AW.block ?_
 refine AW.seq ?_
 refine AW.region ?_
 refine OpsW.q rfl (q_move (v := .int _ _) rfl) ?_
 refine OpsW.q rfl (q_assign (v := .int _ _) rfl) ?_
 refine OpsW.nil ?_
 refine SeqP.go ?_
 refine AW.drawK [] 16 rfl (by kernel_rfl) ?_
 refine SeqK.q rfl (q_move (v := .int _ _) rfl) ?_
 refine SeqK.q rfl (q_quoI rfl rfl (by omega)) ?_
 refine SeqK.q rfl (q_indexAddrA0 Tryz.underlying144 (by kernel_rfl) rfl rfl (by omega) (by omega)) ?_
 refine SeqK.q rfl (q_loadN (by kernel_rfl) rfl (hSl0.blk at0) (by omega)) ?_
 refine SeqK.q rfl (q_move (v := .int _ _) rfl) ?_
 refine SeqK.q rfl (q_quoI rfl rfl (by omega)) ?_
 refine SeqK.q rfl (q_indexAddrA0 Tryz.underlying139 (by kernel_rfl) rfl rfl (by omega) (by omega)) ?_
 refine SeqK.q rfl (q_loadN (by kernel_rfl) rfl (hSl0.blk at2) (by omega)) ?_
 refine SeqK.q rfl (q_move (v := .int _ _) rfl) ?_
 refine SeqK.q rfl (q_remI rfl rfl (by omega)) ?_
 refine SeqK.q rfl (q_shr rfl rfl (by omega)) ?_
 refine SeqK.q rfl (q_and rfl rfl) ?_
 refine SeqK.q rfl (q_convInt rfl Tryz.underlying5 rfl) ?_
 refine SeqK.q rfl (q_move (v := .int _ _) rfl) ?_
 refine SeqK.q rfl (q_remI rfl rfl (by omega)) ?_
 refine SeqK.q rfl (q_shl rfl rfl (by omega)) ?_
 refine SeqK.done ?_
 refine OpsW.q rfl (q_or rfl rfl) ?_
 refine OpsW.q rfl (q_indexAddrA0 Tryz.underlying144 (by kernel_rfl) rfl rfl (by omega) (by omega)) ?_
 refine OpsW.ms (s_storeN hSl0 at0 (by kernel_rfl) rfl rfl (by omega)) ?_
 rintro _ H5 ⟨rfl, hS5⟩
 clear hSl0
 refine OpsW.nil ?_
 refine BlockP.go ?_
 refine SeqP.go ?_
 refine AW.region ?_
 refine OpsW.q rfl (q_addI rfl rfl (by omega)) ?_
 refine OpsW.q rfl (q_move (v := .int _ _) rfl) ?_
 refine OpsW.nil ?_
 exact LoopP.go _ (by omega) ⟨i + 1, _, rfl, (by omega), Slots.eq ⟨(by rfl), (by rfl), (by rfl), (by rfl),  trivial⟩, (by rw [← bytes_step (by omega)]; exact hS5)⟩
theorem clamped_con {key : List UInt8} (hk : key.length = 32) : Con Tryz.prog w0 102 #[S key] H (fun v H' => v = .agg (nums .u64 (ofL (clK (ofB (key.take 16) ++ [0]) 4))).toArray ∧ H' = H) := by
 have hS0 : Sep H [] H := Sep.refl
 have hk16 : (key.take 16).length = 16 := by rw [List.length_take, hk]; decide
 refine Con.intro Tryz.func102 rfl rfl ?_
 refine AW.seq ?_
 refine AW.region ?_
 refine OpsW.m rfl (s_allocN (k := .u64) (m := 5) hS0 (by kernel_rfl)) ?_
 rintro _ H1 ⟨b2, rfl, hS1⟩
 clear hS0
 refine OpsW.nil ?_
 refine SeqP.go ?_
 refine AW.seq ?_
 refine AW.region ?_
 refine OpsW.m rfl (s_allocN (k := .u8) (m := 17) hS1 (by kernel_rfl)) ?_
 rintro _ H2 ⟨b3, rfl, hS2⟩
 clear hS1
 refine OpsW.nil ?_
 refine SeqP.go ?_
 refine AW.seq ?_
 refine AW.drawK [] 3 rfl (by kernel_rfl) ?_
 refine SeqK.q rfl (q_sliceArr_all (sz := 1) Tryz.underlying141 (by kernel_rfl) rfl ) ?_
 refine SeqK.q rfl (q_move (v := S _) rfl) ?_
 refine SeqK.q rfl (q_sliceS_hi Tryz.underlying9 rfl rfl (by omega) (by omega)) ?_
 refine SeqK.done ?_
 refine OpsW.m rfl (s_copyN hS2 at0 Tryz.underlying35 (by kernel_rfl) rfl rfl (by simp only [nums_length, List.length_set, List.length_replicate, List.length_take, List.length_drop, List.length_append, List.length_cons, List.length_nil, ofB_length, toB_length]; omega) src_str) ?_
 rintro _ H3 ⟨rfl, hS3⟩
 clear hS2
 have hs := hS3
 rw [show (List.take 0 (List.replicate 17 (0 : Int)) ++ (ofB (key.take (16 : Int).toNat)).take (min (key.take (16 : Int).toNat).length 17) ++ List.drop (0 + ((ofB (key.take (16 : Int).toNat)).take (min (key.take (16 : Int).toNat).length 17)).length) (List.replicate 17 (0 : Int))) = ofB (key.take 16) ++ [0] from clamp_start hk16] at hs
 replace hS3 := hs
 clear hs
 refine OpsW.nil ?_
 refine SeqP.go ?_
 refine AW.seq ?_
 refine AW.seq ?_
 refine AW.region ?_
 refine OpsW.q rfl (q_assign (v := .int _ _) rfl) ?_
 refine OpsW.nil ?_
 refine SeqP.go ?_
 refine AW.block ?_
 refine AW.loop (fun m_ e_ H_ => ∃ (j : Nat) (e0 : Env), m_ = 4 - j ∧ (j ≤ 4) ∧ e_ = upds e0 [(2, .pointer (some ⟨b2, 0, none⟩)), (3, .pointer (some ⟨b3, 0, none⟩)), (4, .int .i64 ((4 * j + 3 : Nat) : Int))] ∧ Sep H [.blk b3 ⟨nums .u8 ((clK (ofB (key.take 16) ++ [0]) j)), 17, 141⟩, .blk b2 ⟨nums .u64 ((List.replicate 5 0)), 5, 139⟩] H_) _ ⟨0, _, rfl, (by omega), Slots.eq ⟨(by rfl), (by rfl), (by rfl),  trivial⟩, (by rw [clK_zero]; exact hS3)⟩ ?_
 rintro m_ _ Hl0 ⟨j, e0, rfl, hf, rfl, hSl0⟩
 try clear hS3
 have hc1 : (clK (ofB (key.take 16) ++ [0]) j).length = 17 := by rw [clK_length, List.length_append, ofB_length, hk16]; rfl
 refine AW.seq ?_
 refine AW.seq ?_
 refine AW.region ?_
 refine OpsW.q rfl (q_move (v := .int _ _) rfl) ?_
 refine OpsW.q rfl (q_lss rfl rfl) ?_
 refine OpsW.nil ?_
 refine SeqP.go ?_
 refine AW.cond2 rfl (fun h0 => ?_) (fun h0 => ?_)
 ·
  try simp only [z1, z2, z3, z4, z5, z6, z7, z8, z9, z10, z11, z12, z13, z14] at h0
  refine AW.exit ?_
  refine SeqP.exit ?_
  refine LoopP.exit ?_
  obtain rfl : j = 4 := by omega
  have hc4 := hc1
  have hcB := cl_bytes hk16
  have ho5 := ofL_length (clK (ofB (key.take 16) ++ [0]) 4)
  refine BlockP.here ?_
  refine SeqP.go ?_
  refine AW.seq ?_
  refine AW.region ?_
  refine OpsW.q rfl (q_loadAN (n := 17) (k := .u8) (by kernel_rfl) rfl (hSl0.blk at0) (by with_reducible assumption)) ?_
  refine OpsW.q rfl (o_call rfl Tryz.func104 rfl rfl (of_con hc4 hcB)) ?_
  refine OpsW.ms (s_storeA (n := 5) (k := .u64) hSl0 at1 (by kernel_rfl) rfl rfl (by with_reducible assumption) (by rfl)) ?_
  rintro _ H4 ⟨rfl, hS4⟩
  clear hSl0
  refine OpsW.nil ?_
  refine SeqP.go ?_
  refine AW.ret ?_
  refine RetP.mkc (m := 5) (H' := H) rfl rfl (hS4.blk at1) (by simp only [nums_length, List.length_set, List.length_replicate, List.length_take, List.length_drop, List.length_append, List.length_cons, List.length_nil, ofB_length, toB_length]; omega) (by kernel_rfl) hS4.le ?_
  exact ⟨rfl, rfl⟩
 try simp only [z1, z2, z3, z4, z5, z6, z7, z8, z9, z10, z11, z12, z13, z14] at h0
 refine AW.skip ?_
 refine SeqP.go ?_
 refine AW.seq ?_
 refine AW.block ?_
 refine AW.seq ?_
 refine AW.region ?_
 refine OpsW.q rfl (q_move (v := .int _ _) rfl) ?_
 refine OpsW.q rfl (q_indexAddrA0 Tryz.underlying141 (by kernel_rfl) rfl rfl (by omega) (by omega)) ?_
 refine OpsW.q rfl (q_loadN (by kernel_rfl) rfl (hSl0.blk at0) (by omega)) ?_
 refine OpsW.q rfl (q_and rfl rfl) ?_
 refine OpsW.q rfl (q_indexAddrA0 Tryz.underlying141 (by kernel_rfl) rfl rfl (by omega) (by omega)) ?_
 refine OpsW.ms (s_storeN hSl0 at0 (by kernel_rfl) rfl rfl (by omega)) ?_
 rintro _ H5 ⟨rfl, hS5⟩
 clear hSl0
 refine OpsW.nil ?_
 refine SeqP.go ?_
 refine AW.region ?_
 refine OpsW.q rfl (q_move (v := .int _ _) rfl) ?_
 refine OpsW.q rfl (q_addI rfl rfl (by omega)) ?_
 refine OpsW.q rfl (q_remI rfl rfl (by omega)) ?_
 refine OpsW.q rfl (q_indexAddrA0 Tryz.underlying141 (by kernel_rfl) rfl rfl (by omega) (by omega)) ?_
 refine OpsW.q rfl (q_loadN (by kernel_rfl) rfl (hS5.blk at0) (by simp only [nums_length, List.length_set, List.length_replicate, List.length_take, List.length_drop, List.length_append, List.length_cons, List.length_nil, ofB_length, toB_length]; omega)) ?_
 refine OpsW.q rfl (q_move (v := .int _ _) rfl) ?_
 refine OpsW.q rfl (q_quoI rfl rfl (by omega)) ?_
 refine OpsW.q rfl (q_mulI rfl rfl (by omega)) ?_
 refine OpsW.q rfl (q_convInt rfl Tryz.underlying5 rfl) ?_
 refine OpsW.q rfl (q_or rfl rfl) ?_
 refine OpsW.q rfl (q_and rfl rfl) ?_
 refine OpsW.q rfl (q_indexAddrA0 Tryz.underlying141 (by kernel_rfl) rfl rfl (by omega) (by omega)) ?_
 refine OpsW.ms (s_storeN hS5 at0 (by kernel_rfl) rfl rfl (by simp only [nums_length, List.length_set, List.length_replicate, List.length_take, List.length_drop, List.length_append, List.length_cons, List.length_nil, ofB_length, toB_length]; omega)) ?_
 rintro _ H6 ⟨rfl, hS6⟩
 clear hS5
 refine OpsW.nil ?_
 refine BlockP.go ?_
 refine SeqP.go ?_
 refine AW.region ?_
 refine OpsW.q rfl (q_move (v := .int _ _) rfl) ?_
 refine OpsW.q rfl (q_addI rfl rfl (by omega)) ?_
 refine OpsW.q rfl (q_assign (v := .int _ _) rfl) ?_
 refine OpsW.nil ?_
 exact LoopP.go _ (by omega) ⟨j + 1, _, rfl, (by omega), Slots.eq ⟨(by rfl), (by rfl), (by rfl),  trivial⟩, (by rw [clK_succ]; unfold clS; have hs := hS6; rw [Int.toNat_natCast, show ((((4 * j + 3 : Nat) : Int) + 1) % 16).toNat = (4 * j + 4) % 16 from by omega] at hs; exact hs)⟩
end
end Go.Proofs.YtfpoldogcopmpaaGreatDoor.Po
end
