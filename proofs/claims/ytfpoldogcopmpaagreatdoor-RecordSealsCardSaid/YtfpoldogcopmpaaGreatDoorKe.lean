/-
 The proof's texts, joined, without what the statements do not reach: part 5 of 9. No condition.
-/
import Derived.Test.YtfpoldogcopmpaaGreatDoorCards
import Derived.Test.YtfpoldogcopmpaaGreatDoorTie
import Derived.WalkKit
import Derived.KernelRfl
import Derived.Lib.ConvBytes
import Derived.WalkSpells
import Derived.WalkLawsBesides
import Derived.ProofKit
import Derived.ChangeMaps5
import Derived.ChangeSlices
import Derived.Deep.Strs
import Derived.Handed
import Derived.LaidLaws
import Derived.LaidMore
import Derived.Lay
import Derived.SevenTiedAt
import Derived.Stop.Joined
import Derived.DataElems
import Derived.OpenShut
import Derived.Test.YtfpoldogcopmpaaGreatDoorProg
import Derived.Lib.TrimByte
import Derived.Shelf.Bits.Mul64
import Derived.Shelf.Small.Strs
import Derived.Shelf.Small.Utf8
import Derived.Shelf.Strings.AsciiSet
import Derived.Shelf.Strings.Builder1
import Derived.Shelf.Strings.Builder2
import Derived.Shelf.Strings.Builder2Cap
import Derived.Shelf.Strings.BuilderF
import Derived.Shelf.Strings.Prefix
import Derived.Shelf.Strings.Repeat
import Derived.Shelf.Strings.Runes
import Derived.Shelf.Strings.Search1
import Derived.Shelf.Strings.Trim
import Derived.Shelf.Unicode.Decode
import Derived.Shelf.Unicode.DecodeAny
import Derived.Shelf.Unicode.DecodeLast
import Derived.Shelf.Unicode.DecodeSlow
import Derived.Test.YtfpoldogcopmpaaGreatDoorKd
section
namespace Go.Proofs.YtfpoldogcopmpaaGreatDoor.Ch
open Go Go.RowKit D
set_option linter.unusedVariables false
set_option linter.unusedSimpArgs false
set_option maxRecDepth 100000
set_option maxHeartbeats 1000000
section
variable {w0 : World} {H : Hp}
theorem rotl_con (x k : Int) : Con Tryz.prog w0 121 #[.int .u32 x, .int .i64 k] H (fun v H' => v = .int .u32 (rotl x k) ∧ H' = H) := by
 refine Con.intro Tryz.func121 rfl rfl ?_
 refine AW.seq ?_
 refine AW.region ?_
 refine OpsW.q rfl (q_assign (v := .int _ _) rfl) ?_
 refine OpsW.nil ?_
 refine SeqP.go ?_
 refine AW.seq ?_
 refine AW.region ?_
 refine OpsW.q rfl (q_move (v := .int _ _) rfl) ?_
 refine OpsW.q rfl (q_convInt rfl Tryz.underlying34 rfl) ?_
 refine OpsW.q rfl (q_and rfl rfl) ?_
 refine OpsW.q rfl (q_assign (v := .int _ _) rfl) ?_
 refine OpsW.nil ?_
 refine SeqP.go ?_
 refine AW.seq ?_
 refine AW.region ?_
 refine OpsW.q rfl (q_move (v := .int _ _) rfl) ?_
 refine OpsW.q rfl (q_move (v := .int _ _) rfl) ?_
 refine OpsW.q rfl (q_shl rfl rfl (iand_nonneg _ _)) ?_
 refine OpsW.q rfl (q_move (v := .int _ _) rfl) ?_
 refine OpsW.q rfl (q_move (v := .int _ _) rfl) ?_
 refine OpsW.q rfl (q_sub rfl rfl) ?_
 refine OpsW.q rfl (q_shr rfl rfl (wrap_u64_nonneg _)) ?_
 refine OpsW.q rfl (q_or rfl rfl) ?_
 refine OpsW.q rfl (q_assign (v := .int _ _) rfl) ?_
 refine OpsW.nil ?_
 refine SeqP.go ?_
 refine AW.ret ?_
 refine RetP.mk1 (H' := H) (v1 := .int _ _) rfl rfl  (by exact (Hp.le_refl _)) ?_
 exact ⟨by unfold rotl; rfl, rfl⟩
theorem number_con (s : List UInt8) (hs : 4 ≤ s.length) : Con Tryz.prog w0 108 #[S s] H (fun v H' => v = .int .u32 (word s) ∧ H' = H) := by
 refine Con.intro Tryz.func108 rfl rfl ?_
 refine AW.seq ?_
 refine AW.region ?_
 refine OpsW.q rfl (q_assign (v := .int _ _) rfl) ?_
 refine OpsW.nil ?_
 refine SeqP.go ?_
 refine AW.seq ?_
 refine AW.drawK [] 17 rfl (by kernel_rfl) ?_
 refine SeqK.q rfl (q_move (v := S _) rfl) ?_
 refine SeqK.q rfl (q_indexS Tryz.underlying9 rfl rfl (by omega) (by omega)) ?_
 refine SeqK.q rfl (q_convInt rfl Tryz.underlying100 rfl) ?_
 refine SeqK.q rfl (q_move (v := S _) rfl) ?_
 refine SeqK.q rfl (q_indexS Tryz.underlying9 rfl rfl (by omega) (by omega)) ?_
 refine SeqK.q rfl (q_convInt rfl Tryz.underlying100 rfl) ?_
 refine SeqK.q rfl (q_shl rfl rfl (by omega)) ?_
 refine SeqK.q rfl (q_or rfl rfl) ?_
 refine SeqK.q rfl (q_move (v := S _) rfl) ?_
 refine SeqK.q rfl (q_indexS Tryz.underlying9 rfl rfl (by omega) (by omega)) ?_
 refine SeqK.q rfl (q_convInt rfl Tryz.underlying100 rfl) ?_
 refine SeqK.q rfl (q_shl rfl rfl (by omega)) ?_
 refine SeqK.q rfl (q_or rfl rfl) ?_
 refine SeqK.q rfl (q_move (v := S _) rfl) ?_
 refine SeqK.q rfl (q_indexS Tryz.underlying9 rfl rfl (by omega) (by omega)) ?_
 refine SeqK.q rfl (q_convInt rfl Tryz.underlying100 rfl) ?_
 refine SeqK.q rfl (q_shl rfl rfl (by omega)) ?_
 refine SeqK.done ?_
 refine OpsW.q rfl (q_or rfl rfl) ?_
 refine OpsW.q rfl (q_assign (v := .int _ _) rfl) ?_
 refine OpsW.nil ?_
 refine SeqP.go ?_
 refine AW.ret ?_
 refine RetP.mk1 (H' := H) (v1 := .int _ _) rfl rfl  (by exact (Hp.le_refl _)) ?_
 exact ⟨by unfold word; rfl, rfl⟩
theorem quarter_con {bv sz : Nat} {el : TypeId} {a b c d : Int} (xs : List Int) (hl : xs.length = 16) (ha : 0 ≤ a ∧ a < 16) (hb : 0 ≤ b ∧ b < 16) (hc : 0 ≤ c ∧ c < 16) (hd : 0 ≤ d ∧ d < 16) :
  Con Tryz.prog w0 109 #[.pointer (some ⟨bv, 0, none⟩), .int .i64 a, .int .i64 b, .int .i64 c, .int .i64 d] (H.set bv ⟨nums .u32 xs, sz, el⟩)
   (fun v H' => v = .tuple #[] ∧ H' = H.set bv ⟨nums .u32 (quarter xs a.toNat b.toNat c.toNat d.toNat), sz, el⟩) := by
 refine Con.intro Tryz.func109 rfl rfl ?_
 refine AW.seq ?_
 refine AW.drawK [] 12 rfl (by kernel_rfl) ?_
 refine SeqK.q rfl (q_move (v := .pointer _) rfl) ?_
 refine SeqK.q rfl (q_move (v := .int _ _) rfl) ?_
 refine SeqK.q rfl (q_nilCheck rfl) ?_
 refine SeqK.q rfl (q_indexAddrA0 Tryz.underlying116 (by kernel_rfl) rfl rfl (by omega) (by omega)) ?_
 refine SeqK.q rfl (q_loadN (by kernel_rfl) rfl (by exact Hp.set_self) (by omega)) ?_
 refine SeqK.q rfl (q_move (v := .pointer _) rfl) ?_
 refine SeqK.q rfl (q_move (v := .int _ _) rfl) ?_
 refine SeqK.q rfl (q_nilCheck rfl) ?_
 refine SeqK.q rfl (q_indexAddrA0 Tryz.underlying116 (by kernel_rfl) rfl rfl (by omega) (by omega)) ?_
 refine SeqK.q rfl (q_loadN (by kernel_rfl) rfl (by exact Hp.set_self) (by omega)) ?_
 refine SeqK.q rfl (q_add rfl rfl) ?_
 refine SeqK.q rfl (q_nilCheck rfl) ?_
 refine SeqK.done ?_
 refine OpsW.q rfl (q_indexAddrA0 Tryz.underlying116 (by kernel_rfl) rfl rfl (by omega) (by omega)) ?_
 refine OpsW.s (o_storeN1 (by kernel_rfl) rfl rfl (by omega)) ?_
 refine OpsW.nil ?_
 refine SeqP.go ?_
 refine AW.seq ?_
 refine AW.drawK [] 15 rfl (by kernel_rfl) ?_
 refine SeqK.q rfl (q_move (v := .pointer _) rfl) ?_
 refine SeqK.q rfl (q_move (v := .int _ _) rfl) ?_
 refine SeqK.q rfl (q_move (v := .pointer _) rfl) ?_
 refine SeqK.q rfl (q_move (v := .int _ _) rfl) ?_
 refine SeqK.q rfl (q_nilCheck rfl) ?_
 refine SeqK.q rfl (q_indexAddrA0 Tryz.underlying116 (by kernel_rfl) rfl rfl (by omega) (by omega)) ?_
 refine SeqK.q rfl (q_loadN (by kernel_rfl) rfl (by exact Hp.set_self) (by simp only [nums_length, List.length_set, List.length_replicate, List.length_take, List.length_drop, List.length_append, List.length_cons, List.length_nil, ofB_length, toB_length]; omega)) ?_
 refine SeqK.q rfl (q_move (v := .pointer _) rfl) ?_
 refine SeqK.q rfl (q_move (v := .int _ _) rfl) ?_
 refine SeqK.q rfl (q_nilCheck rfl) ?_
 refine SeqK.q rfl (q_indexAddrA0 Tryz.underlying116 (by kernel_rfl) rfl rfl (by omega) (by omega)) ?_
 refine SeqK.q rfl (q_loadN (by kernel_rfl) rfl (by exact Hp.set_self) (by simp only [nums_length, List.length_set, List.length_replicate, List.length_take, List.length_drop, List.length_append, List.length_cons, List.length_nil, ofB_length, toB_length]; omega)) ?_
 refine SeqK.q rfl (q_xor rfl rfl) ?_
 refine SeqK.q rfl (o_call rfl Tryz.func121 rfl rfl (rotl_con _ _)) ?_
 refine SeqK.q rfl (q_nilCheck rfl) ?_
 refine SeqK.done ?_
 refine OpsW.q rfl (q_indexAddrA0 Tryz.underlying116 (by kernel_rfl) rfl rfl (by omega) (by omega)) ?_
 refine OpsW.s (o_storeN1 (by kernel_rfl) rfl rfl (by simp only [nums_length, List.length_set, List.length_replicate, List.length_take, List.length_drop, List.length_append, List.length_cons, List.length_nil, ofB_length, toB_length]; omega)) ?_
 refine OpsW.nil ?_
 refine SeqP.go ?_
 refine AW.seq ?_
 refine AW.drawK [] 12 rfl (by kernel_rfl) ?_
 refine SeqK.q rfl (q_move (v := .pointer _) rfl) ?_
 refine SeqK.q rfl (q_move (v := .int _ _) rfl) ?_
 refine SeqK.q rfl (q_nilCheck rfl) ?_
 refine SeqK.q rfl (q_indexAddrA0 Tryz.underlying116 (by kernel_rfl) rfl rfl (by omega) (by omega)) ?_
 refine SeqK.q rfl (q_loadN (by kernel_rfl) rfl (by exact Hp.set_self) (by simp only [nums_length, List.length_set, List.length_replicate, List.length_take, List.length_drop, List.length_append, List.length_cons, List.length_nil, ofB_length, toB_length]; omega)) ?_
 refine SeqK.q rfl (q_move (v := .pointer _) rfl) ?_
 refine SeqK.q rfl (q_move (v := .int _ _) rfl) ?_
 refine SeqK.q rfl (q_nilCheck rfl) ?_
 refine SeqK.q rfl (q_indexAddrA0 Tryz.underlying116 (by kernel_rfl) rfl rfl (by omega) (by omega)) ?_
 refine SeqK.q rfl (q_loadN (by kernel_rfl) rfl (by exact Hp.set_self) (by simp only [nums_length, List.length_set, List.length_replicate, List.length_take, List.length_drop, List.length_append, List.length_cons, List.length_nil, ofB_length, toB_length]; omega)) ?_
 refine SeqK.q rfl (q_add rfl rfl) ?_
 refine SeqK.q rfl (q_nilCheck rfl) ?_
 refine SeqK.done ?_
 refine OpsW.q rfl (q_indexAddrA0 Tryz.underlying116 (by kernel_rfl) rfl rfl (by omega) (by omega)) ?_
 refine OpsW.s (o_storeN1 (by kernel_rfl) rfl rfl (by simp only [nums_length, List.length_set, List.length_replicate, List.length_take, List.length_drop, List.length_append, List.length_cons, List.length_nil, ofB_length, toB_length]; omega)) ?_
 refine OpsW.nil ?_
 refine SeqP.go ?_
 refine AW.seq ?_
 refine AW.drawK [] 15 rfl (by kernel_rfl) ?_
 refine SeqK.q rfl (q_move (v := .pointer _) rfl) ?_
 refine SeqK.q rfl (q_move (v := .int _ _) rfl) ?_
 refine SeqK.q rfl (q_move (v := .pointer _) rfl) ?_
 refine SeqK.q rfl (q_move (v := .int _ _) rfl) ?_
 refine SeqK.q rfl (q_nilCheck rfl) ?_
 refine SeqK.q rfl (q_indexAddrA0 Tryz.underlying116 (by kernel_rfl) rfl rfl (by omega) (by omega)) ?_
 refine SeqK.q rfl (q_loadN (by kernel_rfl) rfl (by exact Hp.set_self) (by simp only [nums_length, List.length_set, List.length_replicate, List.length_take, List.length_drop, List.length_append, List.length_cons, List.length_nil, ofB_length, toB_length]; omega)) ?_
 refine SeqK.q rfl (q_move (v := .pointer _) rfl) ?_
 refine SeqK.q rfl (q_move (v := .int _ _) rfl) ?_
 refine SeqK.q rfl (q_nilCheck rfl) ?_
 refine SeqK.q rfl (q_indexAddrA0 Tryz.underlying116 (by kernel_rfl) rfl rfl (by omega) (by omega)) ?_
 refine SeqK.q rfl (q_loadN (by kernel_rfl) rfl (by exact Hp.set_self) (by simp only [nums_length, List.length_set, List.length_replicate, List.length_take, List.length_drop, List.length_append, List.length_cons, List.length_nil, ofB_length, toB_length]; omega)) ?_
 refine SeqK.q rfl (q_xor rfl rfl) ?_
 refine SeqK.q rfl (o_call rfl Tryz.func121 rfl rfl (rotl_con _ _)) ?_
 refine SeqK.q rfl (q_nilCheck rfl) ?_
 refine SeqK.done ?_
 refine OpsW.q rfl (q_indexAddrA0 Tryz.underlying116 (by kernel_rfl) rfl rfl (by omega) (by omega)) ?_
 refine OpsW.s (o_storeN1 (by kernel_rfl) rfl rfl (by simp only [nums_length, List.length_set, List.length_replicate, List.length_take, List.length_drop, List.length_append, List.length_cons, List.length_nil, ofB_length, toB_length]; omega)) ?_
 refine OpsW.nil ?_
 refine SeqP.go ?_
 refine AW.seq ?_
 refine AW.drawK [] 12 rfl (by kernel_rfl) ?_
 refine SeqK.q rfl (q_move (v := .pointer _) rfl) ?_
 refine SeqK.q rfl (q_move (v := .int _ _) rfl) ?_
 refine SeqK.q rfl (q_nilCheck rfl) ?_
 refine SeqK.q rfl (q_indexAddrA0 Tryz.underlying116 (by kernel_rfl) rfl rfl (by omega) (by omega)) ?_
 refine SeqK.q rfl (q_loadN (by kernel_rfl) rfl (by exact Hp.set_self) (by simp only [nums_length, List.length_set, List.length_replicate, List.length_take, List.length_drop, List.length_append, List.length_cons, List.length_nil, ofB_length, toB_length]; omega)) ?_
 refine SeqK.q rfl (q_move (v := .pointer _) rfl) ?_
 refine SeqK.q rfl (q_move (v := .int _ _) rfl) ?_
 refine SeqK.q rfl (q_nilCheck rfl) ?_
 refine SeqK.q rfl (q_indexAddrA0 Tryz.underlying116 (by kernel_rfl) rfl rfl (by omega) (by omega)) ?_
 refine SeqK.q rfl (q_loadN (by kernel_rfl) rfl (by exact Hp.set_self) (by simp only [nums_length, List.length_set, List.length_replicate, List.length_take, List.length_drop, List.length_append, List.length_cons, List.length_nil, ofB_length, toB_length]; omega)) ?_
 refine SeqK.q rfl (q_add rfl rfl) ?_
 refine SeqK.q rfl (q_nilCheck rfl) ?_
 refine SeqK.done ?_
 refine OpsW.q rfl (q_indexAddrA0 Tryz.underlying116 (by kernel_rfl) rfl rfl (by omega) (by omega)) ?_
 refine OpsW.s (o_storeN1 (by kernel_rfl) rfl rfl (by simp only [nums_length, List.length_set, List.length_replicate, List.length_take, List.length_drop, List.length_append, List.length_cons, List.length_nil, ofB_length, toB_length]; omega)) ?_
 refine OpsW.nil ?_
 refine SeqP.go ?_
 refine AW.seq ?_
 refine AW.drawK [] 15 rfl (by kernel_rfl) ?_
 refine SeqK.q rfl (q_move (v := .pointer _) rfl) ?_
 refine SeqK.q rfl (q_move (v := .int _ _) rfl) ?_
 refine SeqK.q rfl (q_move (v := .pointer _) rfl) ?_
 refine SeqK.q rfl (q_move (v := .int _ _) rfl) ?_
 refine SeqK.q rfl (q_nilCheck rfl) ?_
 refine SeqK.q rfl (q_indexAddrA0 Tryz.underlying116 (by kernel_rfl) rfl rfl (by omega) (by omega)) ?_
 refine SeqK.q rfl (q_loadN (by kernel_rfl) rfl (by exact Hp.set_self) (by simp only [nums_length, List.length_set, List.length_replicate, List.length_take, List.length_drop, List.length_append, List.length_cons, List.length_nil, ofB_length, toB_length]; omega)) ?_
 refine SeqK.q rfl (q_move (v := .pointer _) rfl) ?_
 refine SeqK.q rfl (q_move (v := .int _ _) rfl) ?_
 refine SeqK.q rfl (q_nilCheck rfl) ?_
 refine SeqK.q rfl (q_indexAddrA0 Tryz.underlying116 (by kernel_rfl) rfl rfl (by omega) (by omega)) ?_
 refine SeqK.q rfl (q_loadN (by kernel_rfl) rfl (by exact Hp.set_self) (by simp only [nums_length, List.length_set, List.length_replicate, List.length_take, List.length_drop, List.length_append, List.length_cons, List.length_nil, ofB_length, toB_length]; omega)) ?_
 refine SeqK.q rfl (q_xor rfl rfl) ?_
 refine SeqK.q rfl (o_call rfl Tryz.func121 rfl rfl (rotl_con _ _)) ?_
 refine SeqK.q rfl (q_nilCheck rfl) ?_
 refine SeqK.done ?_
 refine OpsW.q rfl (q_indexAddrA0 Tryz.underlying116 (by kernel_rfl) rfl rfl (by omega) (by omega)) ?_
 refine OpsW.s (o_storeN1 (by kernel_rfl) rfl rfl (by simp only [nums_length, List.length_set, List.length_replicate, List.length_take, List.length_drop, List.length_append, List.length_cons, List.length_nil, ofB_length, toB_length]; omega)) ?_
 refine OpsW.nil ?_
 refine SeqP.go ?_
 refine AW.seq ?_
 refine AW.drawK [] 12 rfl (by kernel_rfl) ?_
 refine SeqK.q rfl (q_move (v := .pointer _) rfl) ?_
 refine SeqK.q rfl (q_move (v := .int _ _) rfl) ?_
 refine SeqK.q rfl (q_nilCheck rfl) ?_
 refine SeqK.q rfl (q_indexAddrA0 Tryz.underlying116 (by kernel_rfl) rfl rfl (by omega) (by omega)) ?_
 refine SeqK.q rfl (q_loadN (by kernel_rfl) rfl (by exact Hp.set_self) (by simp only [nums_length, List.length_set, List.length_replicate, List.length_take, List.length_drop, List.length_append, List.length_cons, List.length_nil, ofB_length, toB_length]; omega)) ?_
 refine SeqK.q rfl (q_move (v := .pointer _) rfl) ?_
 refine SeqK.q rfl (q_move (v := .int _ _) rfl) ?_
 refine SeqK.q rfl (q_nilCheck rfl) ?_
 refine SeqK.q rfl (q_indexAddrA0 Tryz.underlying116 (by kernel_rfl) rfl rfl (by omega) (by omega)) ?_
 refine SeqK.q rfl (q_loadN (by kernel_rfl) rfl (by exact Hp.set_self) (by simp only [nums_length, List.length_set, List.length_replicate, List.length_take, List.length_drop, List.length_append, List.length_cons, List.length_nil, ofB_length, toB_length]; omega)) ?_
 refine SeqK.q rfl (q_add rfl rfl) ?_
 refine SeqK.q rfl (q_nilCheck rfl) ?_
 refine SeqK.done ?_
 refine OpsW.q rfl (q_indexAddrA0 Tryz.underlying116 (by kernel_rfl) rfl rfl (by omega) (by omega)) ?_
 refine OpsW.s (o_storeN1 (by kernel_rfl) rfl rfl (by simp only [nums_length, List.length_set, List.length_replicate, List.length_take, List.length_drop, List.length_append, List.length_cons, List.length_nil, ofB_length, toB_length]; omega)) ?_
 refine OpsW.nil ?_
 refine SeqP.go ?_
 refine AW.drawK [] 15 rfl (by kernel_rfl) ?_
 refine SeqK.q rfl (q_move (v := .pointer _) rfl) ?_
 refine SeqK.q rfl (q_move (v := .int _ _) rfl) ?_
 refine SeqK.q rfl (q_move (v := .pointer _) rfl) ?_
 refine SeqK.q rfl (q_move (v := .int _ _) rfl) ?_
 refine SeqK.q rfl (q_nilCheck rfl) ?_
 refine SeqK.q rfl (q_indexAddrA0 Tryz.underlying116 (by kernel_rfl) rfl rfl (by omega) (by omega)) ?_
 refine SeqK.q rfl (q_loadN (by kernel_rfl) rfl (by exact Hp.set_self) (by simp only [nums_length, List.length_set, List.length_replicate, List.length_take, List.length_drop, List.length_append, List.length_cons, List.length_nil, ofB_length, toB_length]; omega)) ?_
 refine SeqK.q rfl (q_move (v := .pointer _) rfl) ?_
 refine SeqK.q rfl (q_move (v := .int _ _) rfl) ?_
 refine SeqK.q rfl (q_nilCheck rfl) ?_
 refine SeqK.q rfl (q_indexAddrA0 Tryz.underlying116 (by kernel_rfl) rfl rfl (by omega) (by omega)) ?_
 refine SeqK.q rfl (q_loadN (by kernel_rfl) rfl (by exact Hp.set_self) (by simp only [nums_length, List.length_set, List.length_replicate, List.length_take, List.length_drop, List.length_append, List.length_cons, List.length_nil, ofB_length, toB_length]; omega)) ?_
 refine SeqK.q rfl (q_xor rfl rfl) ?_
 refine SeqK.q rfl (o_call rfl Tryz.func121 rfl rfl (rotl_con _ _)) ?_
 refine SeqK.q rfl (q_nilCheck rfl) ?_
 refine SeqK.done ?_
 refine OpsW.q rfl (q_indexAddrA0 Tryz.underlying116 (by kernel_rfl) rfl rfl (by omega) (by omega)) ?_
 refine OpsW.s (o_storeN1 (by kernel_rfl) rfl rfl (by simp only [nums_length, List.length_set, List.length_replicate, List.length_take, List.length_drop, List.length_append, List.length_cons, List.length_nil, ofB_length, toB_length]; omega)) ?_
 refine OpsW.nil ?_
 refine RetP.end0 (H' := _) rfl (by exact (Hp.le_refl _)) ?_
 exact ⟨rfl, by unfold quarter; rfl⟩
theorem wrong_con (key nonce : List UInt8) (n : Int) : Con Tryz.prog w0 79 #[S key, S nonce, .int .i64 n] H (fun v H' => v = .int .i64 (wrong key nonce n) ∧ H' = H) := by
 refine Con.intro Tryz.func79 rfl rfl ?_
 refine AW.seq ?_
 refine AW.region ?_
 refine OpsW.q rfl (q_assign (v := .int _ _) rfl) ?_
 refine OpsW.nil ?_
 refine SeqP.go ?_
 refine AW.seq ?_
 refine AW.block ?_
 refine AW.seq ?_
 refine AW.region ?_
 refine OpsW.q rfl (q_move (v := S _) rfl) ?_
 refine OpsW.q rfl (q_lenS Tryz.underlying9 rfl) ?_
 refine OpsW.q rfl (q_neq rfl rfl) ?_
 refine OpsW.qb rfl (q_move (v := .bool _) rfl) ?_
 intro b11 eb11
 refine OpsW.g rfl rfl rfl (fun hB => by simp only [Bool.and_eq_true, beq_iff_eq] at hB; obtain rfl := hB; exact (q_move (v := S _) rfl)) ?_
 refine OpsW.g rfl rfl rfl (fun hB => by simp only [Bool.and_eq_true, beq_iff_eq] at hB; obtain rfl := hB; exact (q_lenS Tryz.underlying9 rfl)) ?_
 refine OpsW.g rfl rfl rfl (fun hB => by simp only [Bool.and_eq_true, beq_iff_eq] at hB; obtain rfl := hB; exact (q_neq rfl rfl)) ?_
 refine OpsW.q rfl (q_or2 rfl rfl rfl) ?_
 refine OpsW.q rfl (q_assign (v := .bool _) rfl) ?_
 refine OpsW.nil ?_
 refine SeqP.go ?_
 refine AW.cond rfl (fun h0 => ?_) (fun h0 => ?_)
 ·
  try simp only [eb11, z1, z2, z3, z4, z5, z6, z7, z8, z9, z10, z11, z12, z13, z14] at h0
  refine AW.seq ?_
  refine AW.region ?_
  refine OpsW.q rfl (q_assign (v := .int _ _) rfl) ?_
  refine OpsW.nil ?_
  refine SeqP.go ?_
  refine AW.ret ?_
  refine BlockP.ret ?_
  refine SeqP.ret ?_
  refine RetP.mk1 (H' := H) (v1 := .int _ _) rfl rfl  (by exact (Hp.le_refl _)) ?_
  refine ⟨?_, rfl⟩
  unfold wrong; simp_all; try omega
 try simp only [eb11, z1, z2, z3, z4, z5, z6, z7, z8, z9, z10, z11, z12, z13, z14] at h0
 refine AW.seq ?_
 refine AW.region ?_
 refine OpsW.q rfl (q_move (v := .int _ _) rfl) ?_
 refine OpsW.q rfl (q_lss rfl rfl) ?_
 refine OpsW.qb rfl (q_move (v := .bool _) rfl) ?_
 intro b19 eb19
 refine OpsW.g rfl rfl rfl (fun hB => by simp only [Bool.and_eq_true, beq_iff_eq] at hB; obtain rfl := hB; exact (q_move (v := .int _ _) rfl)) ?_
 refine OpsW.g rfl rfl rfl (fun hB => by simp only [Bool.and_eq_true, beq_iff_eq] at hB; obtain rfl := hB; exact (q_gtr rfl rfl)) ?_
 refine OpsW.q rfl (q_or2 rfl rfl rfl) ?_
 refine OpsW.q rfl (q_assign (v := .bool _) rfl) ?_
 refine OpsW.nil ?_
 refine SeqP.go ?_
 refine AW.cond rfl (fun h1 => ?_) (fun h1 => ?_)
 ·
  try simp only [eb11, eb19, z1, z2, z3, z4, z5, z6, z7, z8, z9, z10, z11, z12, z13, z14] at h1
  refine AW.seq ?_
  refine AW.region ?_
  refine OpsW.q rfl (q_assign (v := .int _ _) rfl) ?_
  refine OpsW.nil ?_
  refine SeqP.go ?_
  refine AW.ret ?_
  refine BlockP.ret ?_
  refine SeqP.ret ?_
  refine RetP.mk1 (H' := H) (v1 := .int _ _) rfl rfl  (by exact (Hp.le_refl _)) ?_
  refine ⟨?_, rfl⟩
  unfold wrong; simp_all; try omega
 try simp only [eb11, eb19, z1, z2, z3, z4, z5, z6, z7, z8, z9, z10, z11, z12, z13, z14] at h1
 refine AW.skip ?_
 refine BlockP.go ?_
 refine SeqP.go ?_
 refine AW.seq ?_
 refine AW.region ?_
 refine OpsW.q rfl (q_assign (v := .int _ _) rfl) ?_
 refine OpsW.nil ?_
 refine SeqP.go ?_
 refine AW.ret ?_
 refine RetP.mk1 (H' := H) (v1 := .int _ _) rfl rfl  (by exact (Hp.le_refl _)) ?_
 refine ⟨?_, rfl⟩
 unfold wrong; simp_all; try omega
theorem started_con (key nonce : List UInt8) (n : Int) (hk : key.length = 32) (hn : nonce.length = 12) : Con Tryz.prog w0 80 #[S key, S nonce, .int .i64 n] H
   (fun v H' => v = .agg (nums .u32 (started key nonce n)).toArray ∧ H' = H) := by
 refine Con.intro Tryz.func80 rfl rfl ?_
 refine AW.seq ?_
 refine AW.region ?_
 refine OpsW.m rfl (o_allocN (k := .u32) (m := 16) (by kernel_rfl)) ?_
 rintro _ _ ⟨b6, hb6, rfl, rfl⟩
 refine OpsW.nil ?_
 refine SeqP.go ?_
 refine AW.seq ?_
 refine AW.region ?_
 refine OpsW.q rfl (q_build (cells := (nums .u32 first4).toArray) rfl (by kernel_rfl)) ?_
 refine OpsW.m rfl (o_allocN (k := .u32) (m := 16) (by kernel_rfl)) ?_
 rintro _ _ ⟨b7, hb7, rfl, rfl⟩
 obtain ⟨hb7, n7_6⟩ := Hp.none_set hb7
 refine OpsW.s (o_storeA0 (n := 16) (k := .u32) (by kernel_rfl) rfl rfl (by rfl) (by rfl)) ?_
 refine OpsW.nil ?_
 refine SeqP.go ?_
 refine AW.seq ?_
 refine AW.seq ?_
 refine AW.region ?_
 refine OpsW.q rfl (q_move (v := .int _ _) rfl) ?_
 refine OpsW.nil ?_
 refine SeqP.go ?_
 refine AW.block ?_
 refine AW.loop (fun m e H' => ∃ (i : Nat) (e0 : Env), m = 8 - i ∧ (i ≤ 8) ∧ e = upds e0 [(0, S key), (1, S nonce), (2, .int .i64 n), (6, .pointer (some ⟨b6, 0, none⟩)), (7, .pointer (some ⟨b7, 0, none⟩)), (11, .int .i64 (i : Int))] ∧ H' = (H.set b6 ⟨nums .u32 (List.replicate 16 0), 16, 116⟩).set b7 ⟨nums .u32 (started1 key i), 16, 116⟩) _ ⟨0, _, rfl, (by omega), Slots.eq ⟨(by rfl), (by rfl), (by rfl), (by rfl), (by rfl), (by rfl),  trivial⟩, (by simp only [started1, fillK_zero] <;> rfl)⟩ ?_
 rintro m _ _ ⟨i, e0, rfl, hf, rfl, rfl⟩
 have hl1 := started1_length key i
 refine AW.seq ?_
 refine AW.region ?_
 refine OpsW.q rfl (q_lss rfl rfl) ?_
 refine OpsW.nil ?_
 refine SeqP.go ?_
 refine AW.seq ?_
 refine AW.cond2 rfl (fun h0 => ?_) (fun h0 => ?_)
 ·
  try simp only [z1, z2, z3, z4, z5, z6, z7, z8, z9, z10, z11, z12, z13, z14] at h0
  refine AW.exit ?_
  refine SeqP.exit ?_
  refine LoopP.exit ?_
  obtain rfl : i = 8 := by omega
  refine BlockP.here ?_
  refine SeqP.go ?_
  refine AW.seq ?_
  refine AW.region ?_
  refine OpsW.q rfl (q_move (v := .int _ _) rfl) ?_
  refine OpsW.q rfl (q_convInt rfl Tryz.underlying100 rfl) ?_
  refine OpsW.q rfl (q_indexAddrA0 Tryz.underlying116 (by kernel_rfl) rfl rfl (by omega) (by omega)) ?_
  refine OpsW.s (o_storeN1 (by kernel_rfl) rfl rfl (by omega)) ?_
  refine OpsW.nil ?_
  refine SeqP.go ?_
  refine AW.seq ?_
  refine AW.seq ?_
  refine AW.region ?_
  refine OpsW.q rfl (q_move (v := .int _ _) rfl) ?_
  refine OpsW.nil ?_
  refine SeqP.go ?_
  refine AW.block ?_
  refine AW.loop (fun m e H' => ∃ (i : Nat) (e0 : Env), m = 3 - i ∧ (i ≤ 3) ∧ e = upds e0 [(1, S nonce), (6, .pointer (some ⟨b6, 0, none⟩)), (7, .pointer (some ⟨b7, 0, none⟩)), (26, .int .i64 (i : Int))] ∧ H' = (H.set b6 ⟨nums .u32 (List.replicate 16 0), 16, 116⟩).set b7 ⟨nums .u32 (started2 key nonce n i), 16, 116⟩) _ ⟨0, _, rfl, (by omega), Slots.eq ⟨(by rfl), (by rfl), (by rfl), (by rfl),  trivial⟩, (by simp only [started2, fillK_zero] <;> rfl)⟩ ?_
  rintro m _ _ ⟨i, e0, rfl, hf, rfl, rfl⟩
  have hl2 := started2_length key nonce n i
  refine AW.seq ?_
  refine AW.region ?_
  refine OpsW.q rfl (q_lss rfl rfl) ?_
  refine OpsW.nil ?_
  refine SeqP.go ?_
  refine AW.seq ?_
  refine AW.cond2 rfl (fun h1 => ?_) (fun h1 => ?_)
  ·
   try simp only [z1, z2, z3, z4, z5, z6, z7, z8, z9, z10, z11, z12, z13, z14] at h1
   refine AW.exit ?_
   refine SeqP.exit ?_
   refine LoopP.exit ?_
   obtain rfl : i = 3 := by omega
   refine BlockP.here ?_
   refine SeqP.go ?_
   refine AW.seq ?_
   refine AW.region ?_
   refine OpsW.q rfl (q_loadAN (n := 16) (k := .u32) (by kernel_rfl) rfl (by exact Hp.set_self) (by with_reducible assumption)) ?_
   refine OpsW.s (o_storeA02 (n := 16) (k := .u32) (by kernel_rfl) rfl rfl (by with_reducible assumption) (by rfl) (by exact Ne.symm (by assumption))) ?_
   refine OpsW.nil ?_
   refine SeqP.go ?_
   refine AW.ret ?_
   refine RetP.mkc (m := 16) (H' := H) rfl rfl (by exact (Hp.set_ne (by first | assumption | exact Ne.symm (by assumption))).trans (Hp.set_self)) (by simp only [nums_length, List.length_set, List.length_replicate, List.length_take, List.length_drop, List.length_append, List.length_cons, List.length_nil, ofB_length, toB_length]; omega) (by kernel_rfl) (by exact (Hp.le_set (by first | assumption | exact Hp.set_none (by assumption) (by first | assumption | exact Ne.symm (by assumption)) | exact Hp.set_none (Hp.set_none (by assumption) (by first | assumption | exact Ne.symm (by assumption))) (by first | assumption | exact Ne.symm (by assumption))) (Hp.le_set (by first | assumption | exact Hp.set_none (by assumption) (by first | assumption | exact Ne.symm (by assumption)) | exact Hp.set_none (Hp.set_none (by assumption) (by first | assumption | exact Ne.symm (by assumption))) (by first | assumption | exact Ne.symm (by assumption))) (Hp.le_refl _)))) ?_
   exact ⟨by unfold started; rfl, rfl⟩
  try simp only [z1, z2, z3, z4, z5, z6, z7, z8, z9, z10, z11, z12, z13, z14] at h1
  refine AW.skip ?_
  refine SeqP.go ?_
  refine AW.seq ?_
  refine AW.block ?_
  refine AW.seq ?_
  refine AW.region ?_
  refine OpsW.q rfl (q_move (v := .int _ _) rfl) ?_
  refine OpsW.q rfl (q_assign (v := .int _ _) rfl) ?_
  refine OpsW.nil ?_
  refine SeqP.go ?_
  refine AW.region ?_
  refine OpsW.q rfl (q_move (v := .int _ _) rfl) ?_
  refine OpsW.q rfl (q_addI rfl rfl (by omega)) ?_
  refine OpsW.q rfl (q_move (v := S _) rfl) ?_
  refine OpsW.q rfl (q_move (v := .int _ _) rfl) ?_
  refine OpsW.q rfl (q_mulI rfl rfl (by omega)) ?_
  refine OpsW.q rfl (q_sliceS_lo Tryz.underlying9 rfl rfl (by omega) (by omega)) ?_
  refine OpsW.x rfl (o_call rfl Tryz.func108 rfl rfl (number_con _ (by simp only [nums_length, List.length_set, List.length_replicate, List.length_take, List.length_drop, List.length_append, List.length_cons, List.length_nil, ofB_length, toB_length]; omega))) ?_
  refine OpsW.q rfl (q_indexAddrA0 Tryz.underlying116 (by kernel_rfl) rfl rfl (by omega) (by omega)) ?_
  refine OpsW.s (o_storeN1 (by kernel_rfl) rfl rfl (by omega)) ?_
  refine OpsW.nil ?_
  refine BlockP.go ?_
  refine SeqP.go ?_
  refine AW.region ?_
  refine OpsW.q rfl (q_addI rfl rfl (by omega)) ?_
  refine OpsW.q rfl (q_move (v := .int _ _) rfl) ?_
  refine OpsW.nil ?_
  exact LoopP.go _ (by omega) ⟨i + 1, _, rfl, (by omega), Slots.eq ⟨(by rfl), (by rfl), (by rfl), (by rfl),  trivial⟩, (by simp only [show (13 + (i : Int)).toNat = 13 + i from by omega, show (4 * (i : Int)).toNat = 4 * i from by omega, started2, fillK_succ])⟩
 try simp only [z1, z2, z3, z4, z5, z6, z7, z8, z9, z10, z11, z12, z13, z14] at h0
 refine AW.skip ?_
 refine SeqP.go ?_
 refine AW.seq ?_
 refine AW.block ?_
 refine AW.seq ?_
 refine AW.region ?_
 refine OpsW.q rfl (q_move (v := .int _ _) rfl) ?_
 refine OpsW.q rfl (q_assign (v := .int _ _) rfl) ?_
 refine OpsW.nil ?_
 refine SeqP.go ?_
 refine AW.region ?_
 refine OpsW.q rfl (q_move (v := .int _ _) rfl) ?_
 refine OpsW.q rfl (q_addI rfl rfl (by omega)) ?_
 refine OpsW.q rfl (q_move (v := S _) rfl) ?_
 refine OpsW.q rfl (q_move (v := .int _ _) rfl) ?_
 refine OpsW.q rfl (q_mulI rfl rfl (by omega)) ?_
 refine OpsW.q rfl (q_sliceS_lo Tryz.underlying9 rfl rfl (by omega) (by omega)) ?_
 refine OpsW.x rfl (o_call rfl Tryz.func108 rfl rfl (number_con _ (by simp only [nums_length, List.length_set, List.length_replicate, List.length_take, List.length_drop, List.length_append, List.length_cons, List.length_nil, ofB_length, toB_length]; omega))) ?_
 refine OpsW.q rfl (q_indexAddrA0 Tryz.underlying116 (by kernel_rfl) rfl rfl (by omega) (by omega)) ?_
 refine OpsW.s (o_storeN1 (by kernel_rfl) rfl rfl (by omega)) ?_
 refine OpsW.nil ?_
 refine BlockP.go ?_
 refine SeqP.go ?_
 refine AW.region ?_
 refine OpsW.q rfl (q_addI rfl rfl (by omega)) ?_
 refine OpsW.q rfl (q_move (v := .int _ _) rfl) ?_
 refine OpsW.nil ?_
 exact LoopP.go _ (by omega) ⟨i + 1, _, rfl, (by omega), Slots.eq ⟨(by rfl), (by rfl), (by rfl), (by rfl), (by rfl), (by rfl),  trivial⟩, (by simp only [show (4 + (i : Int)).toNat = 4 + i from by omega, show (4 * (i : Int)).toNat = 4 * i from by omega, started1, fillK_succ])⟩
theorem stirred_con (xs : List Int) (hl : xs.length = 16) : Con Tryz.prog w0 81 #[.agg (nums .u32 xs).toArray] H
   (fun v H' => v = .agg (nums .u8 (stirred xs)).toArray ∧ H' = H) := by
 refine Con.intro Tryz.func81 rfl rfl ?_
 refine AW.seq ?_
 refine AW.region ?_
 refine OpsW.m rfl (o_boxN (k := .u32) rfl) ?_
 rintro _ _ ⟨b1, hb1, rfl, rfl⟩
 refine OpsW.m rfl (o_allocN (k := .u8) (m := 64) (by kernel_rfl)) ?_
 rintro _ _ ⟨b2, hb2, rfl, rfl⟩
 obtain ⟨hb2, n2_1⟩ := Hp.none_set hb2
 refine OpsW.nil ?_
 refine SeqP.go ?_
 refine AW.seq ?_
 refine AW.region ?_
 refine OpsW.q rfl (q_loadAN (n := 16) (k := .u32) (by kernel_rfl) rfl (by exact (Hp.set_ne (by first | assumption | exact Ne.symm (by assumption))).trans (Hp.set_self)) (by with_reducible assumption)) ?_
 refine OpsW.m rfl (o_allocN (k := .u32) (m := 16) (by kernel_rfl)) ?_
 rintro _ _ ⟨b3, hb3, rfl, rfl⟩
 obtain ⟨hb3, n3_2⟩ := Hp.none_set hb3
 obtain ⟨hb3, n3_1⟩ := Hp.none_set hb3
 refine OpsW.s (o_storeA0 (n := 16) (k := .u32) (by kernel_rfl) rfl rfl (by with_reducible assumption) (by rfl)) ?_
 refine OpsW.nil ?_
 refine SeqP.go ?_
 refine AW.seq ?_
 refine AW.seq ?_
 refine AW.region ?_
 refine OpsW.q rfl (q_move (v := .int _ _) rfl) ?_
 refine OpsW.nil ?_
 refine SeqP.go ?_
 refine AW.block ?_
 refine AW.loop (fun m e H' => ∃ (i : Nat) (e0 : Env), m = 10 - i ∧ (i ≤ 10) ∧ e = upds e0 [(1, .pointer (some ⟨b1, 0, none⟩)), (2, .pointer (some ⟨b2, 0, none⟩)), (3, .pointer (some ⟨b3, 0, none⟩)), (9, .int .i64 (i : Int))] ∧ H' = (((H.set b1 ⟨nums .u32 xs, xs.length, 116⟩).set b2 ⟨nums .u8 (List.replicate 64 0), 64, 118⟩).set b3 ⟨nums .u32 (roundK xs i), 16, 116⟩)) _ ⟨0, _, rfl, (by omega), Slots.eq ⟨(by rfl), (by rfl), (by rfl), (by rfl),  trivial⟩, (by rw [roundK_zero])⟩ ?_
 rintro m _ _ ⟨i, e0, rfl, hf, rfl, rfl⟩
 have hr := roundK_length xs hl i
 refine AW.seq ?_
 refine AW.region ?_
 refine OpsW.q rfl (q_lss rfl rfl) ?_
 refine OpsW.nil ?_
 refine SeqP.go ?_
 refine AW.seq ?_
 refine AW.cond2 rfl (fun h0 => ?_) (fun h0 => ?_)
 ·
  try simp only [z1, z2, z3, z4, z5, z6, z7, z8, z9, z10, z11, z12, z13, z14] at h0
  refine AW.exit ?_
  refine SeqP.exit ?_
  refine LoopP.exit ?_
  obtain rfl : i = 10 := by omega
  refine BlockP.here ?_
  refine SeqP.go ?_
  refine AW.seq ?_
  refine AW.region ?_
  refine OpsW.m rfl (o_allocN (k := .u8) (m := 64) (by kernel_rfl)) ?_
  rintro _ _ ⟨b6, hb6, rfl, rfl⟩
  obtain ⟨hb6, n6_3⟩ := Hp.none_set hb6
  obtain ⟨hb6, n6_2⟩ := Hp.none_set hb6
  obtain ⟨hb6, n6_1⟩ := Hp.none_set hb6
  refine OpsW.nil ?_
  refine SeqP.go ?_
  refine AW.seq ?_
  refine AW.seq ?_
  refine AW.region ?_
  refine OpsW.q rfl (q_move (v := .int _ _) rfl) ?_
  refine OpsW.nil ?_
  refine SeqP.go ?_
  refine AW.block ?_
  refine AW.loop (fun m e H' => ∃ (j : Nat) (e0 : Env), m = 64 - j ∧ (j ≤ 64) ∧ e = upds e0 [(1, .pointer (some ⟨b1, 0, none⟩)), (2, .pointer (some ⟨b2, 0, none⟩)), (3, .pointer (some ⟨b3, 0, none⟩)), (6, .pointer (some ⟨b6, 0, none⟩)), (42, .int .i64 (j : Int))] ∧ H' = (((H.set b1 ⟨nums .u32 xs, xs.length, 116⟩).set b2 ⟨nums .u8 (List.replicate 64 0), 64, 118⟩).set b3 ⟨nums .u32 (roundK xs 10), 16, 116⟩).set b6 ⟨nums .u8 (outK xs j), 64, 118⟩) _ ⟨0, _, rfl, (by omega), Slots.eq ⟨(by rfl), (by rfl), (by rfl), (by rfl), (by rfl),  trivial⟩, (by simp only [outK, fillK_zero] <;> rfl)⟩ ?_
  rintro m _ _ ⟨j, e0, rfl, hf, rfl, rfl⟩
  have ho := outK_length xs j
  refine AW.seq ?_
  refine AW.region ?_
  refine OpsW.q rfl (q_lss rfl rfl) ?_
  refine OpsW.nil ?_
  refine SeqP.go ?_
  refine AW.seq ?_
  refine AW.cond2 rfl (fun h3 => ?_) (fun h3 => ?_)
  ·
   try simp only [z1, z2, z3, z4, z5, z6, z7, z8, z9, z10, z11, z12, z13, z14] at h3
   refine AW.exit ?_
   refine SeqP.exit ?_
   refine LoopP.exit ?_
   obtain rfl : j = 64 := by omega
   refine BlockP.here ?_
   refine SeqP.go ?_
   refine AW.seq ?_
   refine AW.region ?_
   refine OpsW.q rfl (q_loadAN (n := 64) (k := .u8) (by kernel_rfl) rfl (by exact Hp.set_self) (by with_reducible assumption)) ?_
   refine OpsW.s (o_storeA03 (n := 64) (k := .u8) (by kernel_rfl) rfl rfl (by with_reducible assumption) (by rfl) (by exact Ne.symm (by assumption)) (by exact Ne.symm (by assumption))) ?_
   refine OpsW.nil ?_
   refine SeqP.go ?_
   refine AW.ret ?_
   refine RetP.mkc (m := 64) (H' := H) rfl rfl (by exact (Hp.set_ne (by first | assumption | exact Ne.symm (by assumption))).trans ((Hp.set_ne (by first | assumption | exact Ne.symm (by assumption))).trans (Hp.set_self))) (by simp only [nums_length, List.length_set, List.length_replicate, List.length_take, List.length_drop, List.length_append, List.length_cons, List.length_nil, ofB_length, toB_length]; omega) (by kernel_rfl) (by exact (Hp.le_set (by first | assumption | exact Hp.set_none (by assumption) (by first | assumption | exact Ne.symm (by assumption)) | exact Hp.set_none (Hp.set_none (by assumption) (by first | assumption | exact Ne.symm (by assumption))) (by first | assumption | exact Ne.symm (by assumption))) (Hp.le_set (by first | assumption | exact Hp.set_none (by assumption) (by first | assumption | exact Ne.symm (by assumption)) | exact Hp.set_none (Hp.set_none (by assumption) (by first | assumption | exact Ne.symm (by assumption))) (by first | assumption | exact Ne.symm (by assumption))) (Hp.le_set (by first | assumption | exact Hp.set_none (by assumption) (by first | assumption | exact Ne.symm (by assumption)) | exact Hp.set_none (Hp.set_none (by assumption) (by first | assumption | exact Ne.symm (by assumption))) (by first | assumption | exact Ne.symm (by assumption))) (Hp.le_set (by first | assumption | exact Hp.set_none (by assumption) (by first | assumption | exact Ne.symm (by assumption)) | exact Hp.set_none (Hp.set_none (by assumption) (by first | assumption | exact Ne.symm (by assumption))) (by first | assumption | exact Ne.symm (by assumption))) (Hp.le_refl _)))))) ?_
   exact ⟨by unfold stirred; rfl, rfl⟩
  try simp only [z1, z2, z3, z4, z5, z6, z7, z8, z9, z10, z11, z12, z13, z14] at h3
  refine AW.skip ?_
  refine SeqP.go ?_
  refine AW.seq ?_
  refine AW.block ?_
  refine AW.seq ?_
  refine AW.region ?_
  refine OpsW.q rfl (q_move (v := .int _ _) rfl) ?_
  refine OpsW.q rfl (q_assign (v := .int _ _) rfl) ?_
  refine OpsW.nil ?_
  refine SeqP.go ?_
  refine AW.drawK [] 15 rfl (by kernel_rfl) ?_
  refine SeqK.q rfl (q_move (v := .int _ _) rfl) ?_
  refine SeqK.q rfl (q_move (v := .int _ _) rfl) ?_
  refine SeqK.q rfl (q_quoI rfl rfl (by omega)) ?_
  refine SeqK.q rfl (q_indexAddrA0 Tryz.underlying116 (by kernel_rfl) rfl rfl (by omega) (by omega)) ?_
  refine SeqK.q rfl (q_loadN (by kernel_rfl) rfl (by exact (Hp.set_ne (by first | assumption | exact Ne.symm (by assumption))).trans (Hp.set_self)) (by omega)) ?_
  refine SeqK.q rfl (q_move (v := .int _ _) rfl) ?_
  refine SeqK.q rfl (q_quoI rfl rfl (by omega)) ?_
  refine SeqK.q rfl (q_indexAddrA0 Tryz.underlying116 (by kernel_rfl) rfl rfl (by omega) (by omega)) ?_
  refine SeqK.q rfl (q_loadN (by kernel_rfl) rfl (by exact (Hp.set_ne (by first | assumption | exact Ne.symm (by assumption))).trans ((Hp.set_ne (by first | assumption | exact Ne.symm (by assumption))).trans ((Hp.set_ne (by first | assumption | exact Ne.symm (by assumption))).trans (Hp.set_self)))) (by omega)) ?_
  refine SeqK.q rfl (q_add rfl rfl) ?_
  refine SeqK.q rfl (q_move (v := .int _ _) rfl) ?_
  refine SeqK.q rfl (q_remI rfl rfl (by omega)) ?_
  refine SeqK.q rfl (q_mulI rfl rfl (by omega)) ?_
  refine SeqK.q rfl (q_shr rfl rfl (by omega)) ?_
  refine SeqK.q rfl (q_convInt rfl Tryz.underlying5 rfl) ?_
  refine SeqK.done ?_
  refine OpsW.q rfl (q_indexAddrA0 Tryz.underlying118 (by kernel_rfl) rfl rfl (by omega) (by omega)) ?_
  refine OpsW.s (o_storeN1 (by kernel_rfl) rfl rfl (by omega)) ?_
  refine OpsW.nil ?_
  refine BlockP.go ?_
  refine SeqP.go ?_
  refine AW.region ?_
  refine OpsW.q rfl (q_addI rfl rfl (by omega)) ?_
  refine OpsW.q rfl (q_move (v := .int _ _) rfl) ?_
  refine OpsW.nil ?_
  exact LoopP.go _ (by omega) ⟨j + 1, _, rfl, (by omega), Slots.eq ⟨(by rfl), (by rfl), (by rfl), (by rfl), (by rfl),  trivial⟩, (by simp only [Int.toNat_natCast, show ((j : Int) / 4).toNat = j / 4 from by omega, show (8 * ((j : Int) % 4)).toNat = 8 * (j % 4) from by omega, outK, fillK_succ, Nat.zero_add]; rfl)⟩
 try simp only [z1, z2, z3, z4, z5, z6, z7, z8, z9, z10, z11, z12, z13, z14] at h0
 refine AW.skip ?_
 refine SeqP.go ?_
 refine AW.seq ?_
 refine AW.block ?_
 refine AW.seq ?_
 refine AW.seq ?_
 refine AW.region ?_
 refine OpsW.q rfl (q_move (v := .int _ _) rfl) ?_
 refine OpsW.nil ?_
 refine SeqP.go ?_
 refine AW.block ?_
 refine AW.loop (fun m e H' => ∃ (j : Nat) (e0 : Env), m = 4 - j ∧ (j ≤ 4) ∧ e = upds e0 [(1, .pointer (some ⟨b1, 0, none⟩)), (2, .pointer (some ⟨b2, 0, none⟩)), (3, .pointer (some ⟨b3, 0, none⟩)), (9, .int .i64 (i : Int)), (11, .int .i64 (j : Int))] ∧ H' = (((H.set b1 ⟨nums .u32 xs, xs.length, 116⟩).set b2 ⟨nums .u8 (List.replicate 64 0), 64, 118⟩).set b3 ⟨nums .u32 (colK (roundK xs i) j), 16, 116⟩)) _ ⟨0, _, rfl, (by omega), Slots.eq ⟨(by rfl), (by rfl), (by rfl), (by rfl), (by rfl),  trivial⟩, (by rw [colK_zero])⟩ ?_
 rintro m _ _ ⟨j, e0, rfl, hf, rfl, rfl⟩
 have hc := colK_length (roundK xs i) hr j
 refine AW.seq ?_
 refine AW.region ?_
 refine OpsW.q rfl (q_lss rfl rfl) ?_
 refine OpsW.nil ?_
 refine SeqP.go ?_
 refine AW.seq ?_
 refine AW.cond2 rfl (fun h1 => ?_) (fun h1 => ?_)
 ·
  try simp only [z1, z2, z3, z4, z5, z6, z7, z8, z9, z10, z11, z12, z13, z14] at h1
  refine AW.exit ?_
  refine SeqP.exit ?_
  refine LoopP.exit ?_
  obtain rfl : j = 4 := by omega
  refine BlockP.here ?_
  refine SeqP.go ?_
  refine AW.seq ?_
  refine AW.region ?_
  refine OpsW.q rfl (q_move (v := .int _ _) rfl) ?_
  refine OpsW.nil ?_
  refine SeqP.go ?_
  refine AW.block ?_
  refine AW.loop (fun m e H' => ∃ (j : Nat) (e0 : Env), m = 4 - j ∧ (j ≤ 4) ∧ e = upds e0 [(1, .pointer (some ⟨b1, 0, none⟩)), (2, .pointer (some ⟨b2, 0, none⟩)), (3, .pointer (some ⟨b3, 0, none⟩)), (9, .int .i64 (i : Int)), (23, .int .i64 (j : Int))] ∧ H' = (((H.set b1 ⟨nums .u32 xs, xs.length, 116⟩).set b2 ⟨nums .u8 (List.replicate 64 0), 64, 118⟩).set b3 ⟨nums .u32 (diagK (colK (roundK xs i) 4) j), 16, 116⟩)) _ ⟨0, _, rfl, (by omega), Slots.eq ⟨(by rfl), (by rfl), (by rfl), (by rfl), (by rfl),  trivial⟩, (by rw [diagK_zero])⟩ ?_
  rintro m _ _ ⟨j, e0, rfl, hf, rfl, rfl⟩
  have hd := diagK_length (colK (roundK xs i) 4) hc j
  refine AW.seq ?_
  refine AW.region ?_
  refine OpsW.q rfl (q_lss rfl rfl) ?_
  refine OpsW.nil ?_
  refine SeqP.go ?_
  refine AW.seq ?_
  refine AW.cond2 rfl (fun h2 => ?_) (fun h2 => ?_)
  ·
   try simp only [z1, z2, z3, z4, z5, z6, z7, z8, z9, z10, z11, z12, z13, z14] at h2
   refine AW.exit ?_
   refine SeqP.exit ?_
   refine LoopP.exit ?_
   obtain rfl : j = 4 := by omega
   refine BlockP.here ?_
   refine BlockP.go ?_
   refine SeqP.go ?_
   refine AW.region ?_
   refine OpsW.q rfl (q_addI rfl rfl (by omega)) ?_
   refine OpsW.q rfl (q_move (v := .int _ _) rfl) ?_
   refine OpsW.nil ?_
   exact LoopP.go _ (by omega) ⟨i + 1, _, rfl, (by omega), Slots.eq ⟨(by rfl), (by rfl), (by rfl), (by rfl),  trivial⟩, (by rw [roundK_succ])⟩
  try simp only [z1, z2, z3, z4, z5, z6, z7, z8, z9, z10, z11, z12, z13, z14] at h2
  refine AW.skip ?_
  refine SeqP.go ?_
  refine AW.seq ?_
  refine AW.block ?_
  refine AW.seq ?_
  refine AW.region ?_
  refine OpsW.q rfl (q_move (v := .int _ _) rfl) ?_
  refine OpsW.q rfl (q_assign (v := .int _ _) rfl) ?_
  refine OpsW.nil ?_
  refine SeqP.go ?_
  refine AW.region ?_
  refine OpsW.q rfl (q_move (v := .int _ _) rfl) ?_
  refine OpsW.q rfl (q_move (v := .int _ _) rfl) ?_
  refine OpsW.q rfl (q_addI rfl rfl (by omega)) ?_
  refine OpsW.q rfl (q_remI rfl rfl (by omega)) ?_
  refine OpsW.q rfl (q_addI rfl rfl (by omega)) ?_
  refine OpsW.q rfl (q_move (v := .int _ _) rfl) ?_
  refine OpsW.q rfl (q_addI rfl rfl (by omega)) ?_
  refine OpsW.q rfl (q_remI rfl rfl (by omega)) ?_
  refine OpsW.q rfl (q_addI rfl rfl (by omega)) ?_
  refine OpsW.q rfl (q_move (v := .int _ _) rfl) ?_
  refine OpsW.q rfl (q_addI rfl rfl (by omega)) ?_
  refine OpsW.q rfl (q_remI rfl rfl (by omega)) ?_
  refine OpsW.q rfl (q_addI rfl rfl (by omega)) ?_
  refine OpsW.x rfl (o_call rfl Tryz.func109 rfl rfl (quarter_con _ (by with_reducible assumption) (by omega) (by omega) (by omega) (by omega))) ?_
  refine OpsW.nil ?_
  refine BlockP.go ?_
  refine SeqP.go ?_
  refine AW.region ?_
  refine OpsW.q rfl (q_addI rfl rfl (by omega)) ?_
  refine OpsW.q rfl (q_move (v := .int _ _) rfl) ?_
  refine OpsW.nil ?_
  exact LoopP.go _ (by omega) ⟨j + 1, _, rfl, (by omega), Slots.eq ⟨(by rfl), (by rfl), (by rfl), (by rfl), (by rfl),  trivial⟩, (by simp only [Int.toNat_natCast, show (4 + ((j : Int) + 1) % 4).toNat = 4 + (j + 1) % 4 from by omega, show (8 + ((j : Int) + 2) % 4).toNat = 8 + (j + 2) % 4 from by omega, show (12 + ((j : Int) + 3) % 4).toNat = 12 + (j + 3) % 4 from by omega, diagK_succ])⟩
 try simp only [z1, z2, z3, z4, z5, z6, z7, z8, z9, z10, z11, z12, z13, z14] at h1
 refine AW.skip ?_
 refine SeqP.go ?_
 refine AW.seq ?_
 refine AW.block ?_
 refine AW.seq ?_
 refine AW.region ?_
 refine OpsW.q rfl (q_move (v := .int _ _) rfl) ?_
 refine OpsW.q rfl (q_assign (v := .int _ _) rfl) ?_
 refine OpsW.nil ?_
 refine SeqP.go ?_
 refine AW.region ?_
 refine OpsW.q rfl (q_move (v := .int _ _) rfl) ?_
 refine OpsW.q rfl (q_move (v := .int _ _) rfl) ?_
 refine OpsW.q rfl (q_addI rfl rfl (by omega)) ?_
 refine OpsW.q rfl (q_move (v := .int _ _) rfl) ?_
 refine OpsW.q rfl (q_addI rfl rfl (by omega)) ?_
 refine OpsW.q rfl (q_move (v := .int _ _) rfl) ?_
 refine OpsW.q rfl (q_addI rfl rfl (by omega)) ?_
 refine OpsW.x rfl (o_call rfl Tryz.func109 rfl rfl (quarter_con _ (by with_reducible assumption) (by omega) (by omega) (by omega) (by omega))) ?_
 refine OpsW.nil ?_
 refine BlockP.go ?_
 refine SeqP.go ?_
 refine AW.region ?_
 refine OpsW.q rfl (q_addI rfl rfl (by omega)) ?_
 refine OpsW.q rfl (q_move (v := .int _ _) rfl) ?_
 refine OpsW.nil ?_
 exact LoopP.go _ (by omega) ⟨j + 1, _, rfl, (by omega), Slots.eq ⟨(by rfl), (by rfl), (by rfl), (by rfl), (by rfl),  trivial⟩, (by simp only [Int.toNat_natCast, show (4 + (j : Int)).toNat = 4 + j from by omega, show (8 + (j : Int)).toNat = 8 + j from by omega, show (12 + (j : Int)).toNat = 12 + j from by omega, colK_succ])⟩
theorem block_con (key nonce : List UInt8) (n : Int) : Con Tryz.prog w0 75 #[S key, S nonce, .int .i64 n] H
   (fun v H' => v = .tuple #[S (blockP key nonce n).1, .int .i64 (blockP key nonce n).2] ∧ H' = H) := by
 refine Con.intro Tryz.func75 rfl rfl ?_
 refine AW.seq ?_
 refine AW.region ?_
 refine OpsW.q rfl (q_assign (v := S _) rfl) ?_
 refine OpsW.q rfl (q_assign (v := .int _ _) rfl) ?_
 refine OpsW.nil ?_
 refine SeqP.go ?_
 refine AW.seq ?_
 refine AW.seq ?_
 refine AW.region ?_
 refine OpsW.q rfl (q_move (v := S _) rfl) ?_
 refine OpsW.q rfl (q_move (v := S _) rfl) ?_
 refine OpsW.q rfl (q_move (v := .int _ _) rfl) ?_
 refine OpsW.x rfl (o_call rfl Tryz.func79 rfl rfl (wrong_con _ _ _)) ?_
 refine OpsW.q rfl (q_assign (v := .int _ _) rfl) ?_
 refine OpsW.nil ?_
 refine SeqP.go ?_
 refine AW.seq ?_
 refine AW.region ?_
 refine OpsW.q rfl (q_move (v := .int _ _) rfl) ?_
 refine OpsW.q rfl (q_neq rfl rfl) ?_
 refine OpsW.nil ?_
 refine SeqP.go ?_
 refine AW.cond rfl (fun h0 => ?_) (fun h0 => ?_)
 ·
  try simp only [z1, z2, z3, z4, z5, z6, z7, z8, z9, z10, z11, z12, z13, z14] at h0
  refine AW.seq ?_
  refine AW.region ?_
  refine OpsW.q rfl (q_move (v := .int _ _) rfl) ?_
  refine OpsW.q rfl (q_assign (v := S _) rfl) ?_
  refine OpsW.q rfl (q_assign (v := .int _ _) rfl) ?_
  refine OpsW.nil ?_
  refine SeqP.go ?_
  refine AW.ret ?_
  refine SeqP.ret ?_
  refine RetP.mk2 (H' := H) (v1 := S _) (v2 := .int _ _) rfl rfl rfl  (by exact (Hp.le_refl _)) ?_
  exact ⟨by first | rw [blockP_bad h0] | rw [blockP_ok h0], rfl⟩
 try simp only [z1, z2, z3, z4, z5, z6, z7, z8, z9, z10, z11, z12, z13, z14] at h0
 obtain ⟨hk, hn, hn0, hn1⟩ := wrong_zero h0
 have hs := started_length key nonce n
 have hs2 := stirred_length (started key nonce n)
 refine AW.skip ?_
 refine SeqP.go ?_
 refine AW.seq ?_
 refine AW.region ?_
 refine OpsW.q rfl (q_move (v := S _) rfl) ?_
 refine OpsW.q rfl (q_move (v := S _) rfl) ?_
 refine OpsW.q rfl (q_move (v := .int _ _) rfl) ?_
 refine OpsW.x rfl (o_call rfl Tryz.func80 rfl rfl (started_con _ _ _ hk hn)) ?_
 refine OpsW.x rfl (o_call rfl Tryz.func81 rfl rfl (stirred_con _ hs)) ?_
 refine OpsW.m rfl (o_allocN (k := .u8) (m := 64) (by kernel_rfl)) ?_
 rintro _ _ ⟨b9, hb9, rfl, rfl⟩
 refine OpsW.s (o_storeA0 (n := 64) (k := .u8) (by kernel_rfl) rfl rfl (by with_reducible assumption) (by rfl)) ?_
 refine OpsW.nil ?_
 refine SeqP.go ?_
 refine AW.seq ?_
 refine AW.region ?_
 refine OpsW.q rfl (q_sliceArr_all (sz := 1) Tryz.underlying118 (by kernel_rfl) rfl ) ?_
 refine OpsW.q rfl (q_string0 Tryz.underlying35 Tryz.underlying5 Tryz.underlying9 rfl (by exact Hp.set_self) (by omega)) ?_
 refine OpsW.q rfl (q_assign (v := S _) rfl) ?_
 refine OpsW.q rfl (q_assign (v := .int _ _) rfl) ?_
 refine OpsW.nil ?_
 refine SeqP.go ?_
 refine AW.ret ?_
 refine RetP.mk2 (H' := H) (v1 := S _) (v2 := .int _ _) rfl rfl rfl  (by exact (Hp.le_set (by first | assumption | exact Hp.set_none (by assumption) (by first | assumption | exact Ne.symm (by assumption)) | exact Hp.set_none (Hp.set_none (by assumption) (by first | assumption | exact Ne.symm (by assumption))) (by first | assumption | exact Ne.symm (by assumption))) (Hp.le_refl _))) ?_
 exact ⟨by first | rw [blockP_bad h0] | rw [blockP_ok h0], rfl⟩
theorem xor_con (key nonce : List UInt8) (n : Int) (data : List UInt8) (hd : data.length ≤ 1099511627776) : Con Tryz.prog w0 46 #[S key, S nonce, .int .i64 n, S data] H
   (fun v H' => v = .tuple #[S (xorP key nonce n data).1, .int .i64 (xorP key nonce n data).2] ∧ H' = H) := by
 refine Con.intro Tryz.func46 rfl rfl ?_
 refine AW.seq ?_
 refine AW.region ?_
 refine OpsW.q rfl (q_assign (v := S _) rfl) ?_
 refine OpsW.q rfl (q_assign (v := .int _ _) rfl) ?_
 refine OpsW.nil ?_
 refine SeqP.go ?_
 refine AW.seq ?_
 refine AW.seq ?_
 refine AW.region ?_
 refine OpsW.q rfl (q_move (v := S _) rfl) ?_
 refine OpsW.q rfl (q_move (v := S _) rfl) ?_
 refine OpsW.q rfl (q_move (v := .int _ _) rfl) ?_
 refine OpsW.x rfl (o_call rfl Tryz.func79 rfl rfl (wrong_con _ _ _)) ?_
 refine OpsW.q rfl (q_assign (v := .int _ _) rfl) ?_
 refine OpsW.nil ?_
 refine SeqP.go ?_
 refine AW.seq ?_
 refine AW.region ?_
 refine OpsW.q rfl (q_move (v := .int _ _) rfl) ?_
 refine OpsW.q rfl (q_neq rfl rfl) ?_
 refine OpsW.nil ?_
 refine SeqP.go ?_
 refine AW.cond rfl (fun h0 => ?_) (fun h0 => ?_)
 ·
  try simp only [z1, z2, z3, z4, z5, z6, z7, z8, z9, z10, z11, z12, z13, z14] at h0
  refine AW.seq ?_
  refine AW.region ?_
  refine OpsW.q rfl (q_move (v := .int _ _) rfl) ?_
  refine OpsW.q rfl (q_assign (v := S _) rfl) ?_
  refine OpsW.q rfl (q_assign (v := .int _ _) rfl) ?_
  refine OpsW.nil ?_
  refine SeqP.go ?_
  refine AW.ret ?_
  refine SeqP.ret ?_
  refine RetP.mk2 (H' := H) (v1 := S _) (v2 := .int _ _) rfl rfl rfl  (by exact (Hp.le_refl _)) ?_
  exact ⟨by first | rw [xorP_bad h0] | rw [xorP_big h0 h1] | rw [xorP_ok h0 h1], rfl⟩
 try simp only [z1, z2, z3, z4, z5, z6, z7, z8, z9, z10, z11, z12, z13, z14] at h0
 obtain ⟨hk, hn, hn0, hn1⟩ := wrong_zero h0
 refine AW.skip ?_
 refine SeqP.go ?_
 refine AW.seq ?_
 refine AW.seq ?_
 refine AW.region ?_
 refine OpsW.q rfl (q_move (v := S _) rfl) ?_
 refine OpsW.q rfl (q_lenS Tryz.underlying9 rfl) ?_
 refine OpsW.q rfl (q_addI rfl rfl (by omega)) ?_
 refine OpsW.q rfl (q_subI rfl rfl (by omega)) ?_
 refine OpsW.q rfl (q_quoI rfl rfl (by omega)) ?_
 refine OpsW.q rfl (q_assign (v := .int _ _) rfl) ?_
 refine OpsW.nil ?_
 refine SeqP.go ?_
 refine AW.seq ?_
 refine AW.region ?_
 refine OpsW.q rfl (q_move (v := .int _ _) rfl) ?_
 refine OpsW.q rfl (q_move (v := .int _ _) rfl) ?_
 refine OpsW.q rfl (q_subI rfl rfl (by omega)) ?_
 refine OpsW.q rfl (q_gtr rfl rfl) ?_
 refine OpsW.nil ?_
 refine SeqP.go ?_
 refine AW.cond rfl (fun h1 => ?_) (fun h1 => ?_)
 ·
  try simp only [z1, z2, z3, z4, z5, z6, z7, z8, z9, z10, z11, z12, z13, z14] at h1
  refine AW.seq ?_
  refine AW.region ?_
  refine OpsW.q rfl (q_assign (v := S _) rfl) ?_
  refine OpsW.q rfl (q_assign (v := .int _ _) rfl) ?_
  refine OpsW.nil ?_
  refine SeqP.go ?_
  refine AW.ret ?_
  refine SeqP.ret ?_
  refine RetP.mk2 (H' := H) (v1 := S _) (v2 := .int _ _) rfl rfl rfl  (by exact (Hp.le_refl _)) ?_
  exact ⟨by first | rw [xorP_bad h0] | rw [xorP_big h0 h1] | rw [xorP_ok h0 h1], rfl⟩
 try simp only [z1, z2, z3, z4, z5, z6, z7, z8, z9, z10, z11, z12, z13, z14] at h1
 have hs := started_length key nonce n
 have hml : data.length ≤ maxLen := by unfold maxLen; omega
 refine AW.skip ?_
 refine SeqP.go ?_
 refine AW.seq ?_
 refine AW.region ?_
 refine OpsW.q rfl (q_move (v := S _) rfl) ?_
 refine OpsW.m rfl (o_bytes rfl Tryz.underlying35 Tryz.underlying5 rfl (by with_reducible assumption)) ?_
 rintro _ _ ⟨b34, c34, hb34, hl34, hc34, rfl, rfl⟩
 refine OpsW.q rfl (q_assign (v := .slice _ _ _) rfl) ?_
 refine OpsW.nil ?_
 refine SeqP.go ?_
 refine AW.seq ?_
 refine AW.region ?_
 refine OpsW.q rfl (q_move (v := S _) rfl) ?_
 refine OpsW.q rfl (q_move (v := S _) rfl) ?_
 refine OpsW.q rfl (q_move (v := .int _ _) rfl) ?_
 refine OpsW.x rfl (o_call rfl Tryz.func80 rfl rfl (started_con _ _ _ hk hn)) ?_
 refine OpsW.m rfl (o_allocN (k := .u32) (m := 16) (by kernel_rfl)) ?_
 rintro _ _ ⟨b13, hb13, rfl, rfl⟩
 obtain ⟨hb13, n13_34⟩ := Hp.none_set hb13
 refine OpsW.s (o_storeA0 (n := 16) (k := .u32) (by kernel_rfl) rfl rfl (by with_reducible assumption) (by rfl)) ?_
 refine OpsW.nil ?_
 refine SeqP.go ?_
 refine AW.seq ?_
 refine AW.seq ?_
 refine AW.region ?_
 refine OpsW.q rfl (q_assign (v := .int _ _) rfl) ?_
 refine OpsW.nil ?_
 refine SeqP.go ?_
 refine AW.block ?_
 refine AW.loop (fun m e H' => ∃ (i : Nat) (e0 : Env), m = data.length - 64 * i ∧ (64 * i < data.length + 64) ∧ e = upds e0 [(12, .slice (some ⟨b34, 0, none⟩) data.length c34), (13, .pointer (some ⟨b13, 0, none⟩)), (14, .int .i64 ((64 * i : Nat) : Int))] ∧ H' = (H.set b34 ⟨nums .u8 (xorO key nonce n data i), c34, 5⟩).set b13 ⟨nums .u32 (stK key nonce n i), 16, 116⟩) _ ⟨0, _, rfl, (by omega), Slots.eq ⟨(by rfl), (by rfl), (by rfl),  trivial⟩, (by rw [xorO_zero, stK_zero])⟩ ?_
 rintro m _ _ ⟨i, e0, rfl, hf, rfl, rfl⟩
 have hxl := xorO_length key nonce n data i
 have hsl := stK_length key nonce n i
 have hs2 := stirred_length (stK key nonce n i)
 refine AW.seq ?_
 refine AW.seq ?_
 refine AW.region ?_
 refine OpsW.q rfl (q_move (v := .int _ _) rfl) ?_
 refine OpsW.q rfl (q_move (v := .slice _ _ _) rfl) ?_
 refine OpsW.q rfl (q_lenV Tryz.underlying35 rfl) ?_
 refine OpsW.q rfl (q_lss rfl rfl) ?_
 refine OpsW.nil ?_
 refine SeqP.go ?_
 refine AW.cond2 rfl (fun h2 => ?_) (fun h2 => ?_)
 ·
  try simp only [z1, z2, z3, z4, z5, z6, z7, z8, z9, z10, z11, z12, z13, z14] at h2
  refine AW.exit ?_
  refine SeqP.exit ?_
  refine LoopP.exit ?_
  obtain rfl : i = (data.length + 63) / 64 := by omega
  refine BlockP.here ?_
  refine SeqP.go ?_
  refine AW.seq ?_
  refine AW.region ?_
  refine OpsW.q rfl (q_move (v := .slice _ _ _) rfl) ?_
  refine OpsW.q rfl (q_string0 Tryz.underlying35 Tryz.underlying5 Tryz.underlying9 rfl (by exact (Hp.set_ne (by first | assumption | exact Ne.symm (by assumption))).trans (Hp.set_self)) (by omega)) ?_
  refine OpsW.q rfl (q_assign (v := S _) rfl) ?_
  refine OpsW.q rfl (q_assign (v := .int _ _) rfl) ?_
  refine OpsW.nil ?_
  refine SeqP.go ?_
  refine AW.ret ?_
  refine RetP.mk2 (H' := H) (v1 := S _) (v2 := .int _ _) rfl rfl rfl  (by exact (Hp.le_set (by first | assumption | exact Hp.set_none (by assumption) (by first | assumption | exact Ne.symm (by assumption)) | exact Hp.set_none (Hp.set_none (by assumption) (by first | assumption | exact Ne.symm (by assumption))) (by first | assumption | exact Ne.symm (by assumption))) (Hp.le_set (by first | assumption | exact Hp.set_none (by assumption) (by first | assumption | exact Ne.symm (by assumption)) | exact Hp.set_none (Hp.set_none (by assumption) (by first | assumption | exact Ne.symm (by assumption))) (by first | assumption | exact Ne.symm (by assumption))) (Hp.le_refl _)))) ?_
  exact ⟨by first | rw [xorP_bad h0] | rw [xorP_big h0 h1] | rw [xorP_ok h0 h1], rfl⟩
 try simp only [z1, z2, z3, z4, z5, z6, z7, z8, z9, z10, z11, z12, z13, z14] at h2
 refine AW.skip ?_
 refine SeqP.go ?_
 refine AW.seq ?_
 refine AW.block ?_
 refine AW.seq ?_
 refine AW.seq ?_
 refine AW.region ?_
 refine OpsW.q rfl (q_loadAN (n := 16) (k := .u32) (by kernel_rfl) rfl (by exact Hp.set_self) (by with_reducible assumption)) ?_
 refine OpsW.x rfl (o_call rfl Tryz.func81 rfl rfl (stirred_con _ (stK_length key nonce n i))) ?_
 refine OpsW.q rfl (q_move (v := .int _ _) rfl) ?_
 refine OpsW.nil ?_
 refine SeqP.go ?_
 refine AW.block ?_
 refine AW.loop (fun m e H' => ∃ (j : Nat) (e0 : Env), m = 64 - j ∧ (j ≤ 64) ∧ e = upds e0 [(12, .slice (some ⟨b34, 0, none⟩) data.length c34), (13, .pointer (some ⟨b13, 0, none⟩)), (14, .int .i64 ((64 * i : Nat) : Int)), (46, .agg (nums .u8 (stirred (stK key nonce n i))).toArray), (47, .int .i64 (j : Int))] ∧ H' = (H.set b34 ⟨nums .u8 (xorI (64 * i) (stirred (stK key nonce n i)) (xorO key nonce n data i) j), c34, 5⟩).set b13 ⟨nums .u32 (stK key nonce n i), 16, 116⟩) _ ⟨0, _, rfl, (by omega), Slots.eq ⟨(by rfl), (by rfl), (by rfl), (by rfl), (by rfl),  trivial⟩, (by rw [xorI_zero])⟩ ?_
 rintro m _ _ ⟨j, e0, rfl, hf, rfl, rfl⟩
 have hil := xorI_length (64 * i) (stirred (stK key nonce n i)) (xorO key nonce n data i) j
 refine AW.seq ?_
 refine AW.region ?_
 refine OpsW.q rfl (q_lss rfl rfl) ?_
 refine OpsW.nil ?_
 refine SeqP.go ?_
 refine AW.seq ?_
 refine AW.cond2 rfl (fun h3 => ?_) (fun h3 => ?_)
 ·
  try simp only [z1, z2, z3, z4, z5, z6, z7, z8, z9, z10, z11, z12, z13, z14] at h3
  refine AW.exit ?_
  refine SeqP.exit ?_
  refine LoopP.exit ?_
  obtain rfl : j = 64 := by omega
  refine BlockP.here ?_
  refine SeqP.go ?_
  refine AW.region ?_
  refine OpsW.q rfl (q_indexAddrA0 Tryz.underlying116 (by kernel_rfl) rfl rfl (by omega) (by omega)) ?_
  refine OpsW.q rfl (q_loadN (by kernel_rfl) rfl (by exact Hp.set_self) (by omega)) ?_
  refine OpsW.q rfl (q_add rfl rfl) ?_
  refine OpsW.q rfl (q_indexAddrA0 Tryz.underlying116 (by kernel_rfl) rfl rfl (by omega) (by omega)) ?_
  refine OpsW.s (o_storeN1 (by kernel_rfl) rfl rfl (by omega)) ?_
  refine OpsW.nil ?_
  refine BlockP.go ?_
  refine SeqP.go ?_
  refine AW.region ?_
  refine OpsW.q rfl (q_move (v := .int _ _) rfl) ?_
  refine OpsW.q rfl (q_addI rfl rfl (by omega)) ?_
  refine OpsW.q rfl (q_assign (v := .int _ _) rfl) ?_
  refine OpsW.nil ?_
  exact LoopP.go _ (by omega) ⟨i + 1, _, rfl, (by omega), Slots.eq ⟨(by rfl), (by rfl), (by rfl),  trivial⟩, (by rw [xorO_succ, stK_succ]; rfl)⟩
 try simp only [z1, z2, z3, z4, z5, z6, z7, z8, z9, z10, z11, z12, z13, z14] at h3
 refine AW.skip ?_
 refine SeqP.go ?_
 refine AW.seq ?_
 refine AW.block ?_
 refine AW.seq ?_
 refine AW.region ?_
 refine OpsW.q rfl (q_move (v := .int _ _) rfl) ?_
 refine OpsW.q rfl (q_indexAN (k := .u8) Tryz.underlying118 (by kernel_rfl) (by kernel_rfl) rfl rfl (by omega) (by omega) (by with_reducible assumption)) ?_
 refine OpsW.q rfl (q_assign (v := .int _ _) rfl) ?_
 refine OpsW.q rfl (q_assign (v := .int _ _) rfl) ?_
 refine OpsW.nil ?_
 refine SeqP.go ?_
 refine AW.seq ?_
 refine AW.region ?_
 refine OpsW.q rfl (q_move (v := .int _ _) rfl) ?_
 refine OpsW.q rfl (q_move (v := .int _ _) rfl) ?_
 refine OpsW.q rfl (q_addI rfl rfl (by omega)) ?_
 refine OpsW.q rfl (q_move (v := .slice _ _ _) rfl) ?_
 refine OpsW.q rfl (q_lenV Tryz.underlying35 rfl) ?_
 refine OpsW.q rfl (q_lss rfl rfl) ?_
 refine OpsW.nil ?_
 refine SeqP.go ?_
 refine AW.cond rfl (fun h4 => ?_) (fun h4 => ?_)
 ·
  try simp only [z1, z2, z3, z4, z5, z6, z7, z8, z9, z10, z11, z12, z13, z14] at h4
  refine AW.region ?_
  refine OpsW.q rfl (q_move (v := .slice _ _ _) rfl) ?_
  refine OpsW.q rfl (q_move (v := .int _ _) rfl) ?_
  refine OpsW.q rfl (q_move (v := .int _ _) rfl) ?_
  refine OpsW.q rfl (q_addI rfl rfl (by omega)) ?_
  refine OpsW.q rfl (q_indexAddrV0 Tryz.underlying35 (by kernel_rfl) rfl rfl (by omega) (by omega)) ?_
  refine OpsW.q rfl (q_loadN (by kernel_rfl) rfl (by exact (Hp.set_ne (by first | assumption | exact Ne.symm (by assumption))).trans (Hp.set_self)) (by omega)) ?_
  refine OpsW.q rfl (q_move (v := .int _ _) rfl) ?_
  refine OpsW.q rfl (q_xor rfl rfl) ?_
  refine OpsW.q rfl (q_indexAddrV0 Tryz.underlying35 (by kernel_rfl) rfl rfl (by omega) (by omega)) ?_
  refine OpsW.s (o_storeN2 (by kernel_rfl) rfl rfl (by omega) (by exact Ne.symm (by assumption))) ?_
  refine OpsW.nil ?_
  refine BlockP.go ?_
  refine SeqP.go ?_
  refine AW.region ?_
  refine OpsW.q rfl (q_addI rfl rfl (by omega)) ?_
  refine OpsW.q rfl (q_move (v := .int _ _) rfl) ?_
  refine OpsW.nil ?_
  exact LoopP.go _ (by omega) ⟨j + 1, _, rfl, (by omega), Slots.eq ⟨(by rfl), (by rfl), (by rfl), (by rfl), (by rfl),  trivial⟩, (by first | rw [xorI_pos (by omega)]; simp only [show (((64 * i : Nat) : Int) + (j : Int)).toNat = 64 * i + j from by omega, Int.toNat_natCast] | rw [xorI_neg (by omega)])⟩
 try simp only [z1, z2, z3, z4, z5, z6, z7, z8, z9, z10, z11, z12, z13, z14] at h4
 refine AW.skip ?_
 refine BlockP.go ?_
 refine SeqP.go ?_
 refine AW.region ?_
 refine OpsW.q rfl (q_addI rfl rfl (by omega)) ?_
 refine OpsW.q rfl (q_move (v := .int _ _) rfl) ?_
 refine OpsW.nil ?_
 exact LoopP.go _ (by omega) ⟨j + 1, _, rfl, (by omega), Slots.eq ⟨(by rfl), (by rfl), (by rfl), (by rfl), (by rfl),  trivial⟩, (by first | rw [xorI_pos (by omega)]; simp only [show (((64 * i : Nat) : Int) + (j : Int)).toNat = 64 * i + j from by omega, Int.toNat_natCast] | rw [xorI_neg (by omega)])⟩
end
end Go.Proofs.YtfpoldogcopmpaaGreatDoor.Ch
end
