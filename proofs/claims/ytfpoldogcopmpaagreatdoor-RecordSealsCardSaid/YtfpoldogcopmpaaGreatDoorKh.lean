/-
 The proof's texts, joined, without what the statements do not reach: part 8 of 9. No condition.
-/
import Derived.Test.YtfpoldogcopmpaaGreatDoorCards
import Derived.Test.YtfpoldogcopmpaaGreatDoorTie
import Derived.WalkKit
import Derived.KernelRfl
import Derived.Lib.ConvBytes
import Derived.WalkSpells
import Derived.WalkLawsBesides
import Derived.ProofKit
import Derived.ChangeMaps5
import Derived.ChangeSlices
import Derived.Deep.Strs
import Derived.Handed
import Derived.LaidLaws
import Derived.LaidMore
import Derived.Lay
import Derived.SevenTiedAt
import Derived.Stop.Joined
import Derived.DataElems
import Derived.OpenShut
import Derived.Test.YtfpoldogcopmpaaGreatDoorProg
import Derived.Lib.TrimByte
import Derived.Shelf.Bits.Mul64
import Derived.Shelf.Small.Strs
import Derived.Shelf.Small.Utf8
import Derived.Shelf.Strings.AsciiSet
import Derived.Shelf.Strings.Builder1
import Derived.Shelf.Strings.Builder2
import Derived.Shelf.Strings.Builder2Cap
import Derived.Shelf.Strings.BuilderF
import Derived.Shelf.Strings.Prefix
import Derived.Shelf.Strings.Repeat
import Derived.Shelf.Strings.Runes
import Derived.Shelf.Strings.Search1
import Derived.Shelf.Strings.Trim
import Derived.Shelf.Unicode.Decode
import Derived.Shelf.Unicode.DecodeAny
import Derived.Shelf.Unicode.DecodeLast
import Derived.Shelf.Unicode.DecodeSlow
import Derived.Test.YtfpoldogcopmpaaGreatDoorKg
section
namespace Go.Proofs.YtfpoldogcopmpaaGreatDoor
open Go Go.RowKit D
set_option linter.unusedVariables false
set_option linter.unusedSimpArgs false
set_option maxRecDepth 100000
set_option maxHeartbeats 1000000
section
variable {w0 : World} {H : Hp}
theorem isKind_con (n : Int) : Con Tryz.prog w0 27 #[.int .i64 n] H (fun v H' => v = .bool (isK n) ∧ H' = H) := by
 refine Con.intro Tryz.func27 rfl rfl ?_
 refine AW.seq ?_
 refine AW.region ?_
 refine OpsW.q rfl (q_assign (v := .bool _) rfl) ?_
 refine OpsW.nil ?_
 refine SeqP.go ?_
 refine AW.seq ?_
 refine AW.region ?_
 refine OpsW.q rfl (q_move (v := .int _ _) rfl) ?_
 refine OpsW.q rfl (q_geq rfl rfl) ?_
 refine OpsW.qb rfl (q_move (v := .bool _) rfl) ?_
 intro b5 eb5
 refine OpsW.g rfl rfl rfl (fun hB => by simp only [Bool.and_eq_true, beq_iff_eq] at hB; obtain rfl := hB; exact (q_move (v := .int _ _) rfl)) ?_
 refine OpsW.g rfl rfl rfl (fun hB => by simp only [Bool.and_eq_true, beq_iff_eq] at hB; obtain rfl := hB; exact (q_leq rfl rfl)) ?_
 refine OpsW.q rfl (q_and2 rfl rfl rfl) ?_
 refine OpsW.q rfl (q_assign (v := .bool _) rfl) ?_
 refine OpsW.nil ?_
 refine SeqP.go ?_
 refine AW.ret ?_
 refine RetP.mk1 (H' := H) (v1 := .bool _) rfl rfl  (by exact (Hp.le_refl _)) ?_
 refine ⟨?_, rfl⟩
 unfold isK; simp_all
theorem IsKindR_con (n : Int) : Con Tryz.prog w0 31 #[.int .i64 n] H (fun v H' => v = .bool (isK n) ∧ H' = H) := by
 refine Con.intro Tryz.func31 rfl rfl ?_
 refine AW.seq ?_
 refine AW.region ?_
 refine OpsW.q rfl (q_assign (v := .bool _) rfl) ?_
 refine OpsW.nil ?_
 refine SeqP.go ?_
 refine AW.seq ?_
 refine AW.region ?_
 refine OpsW.q rfl (q_move (v := .int _ _) rfl) ?_
 refine OpsW.q rfl (q_geq rfl rfl) ?_
 refine OpsW.qb rfl (q_move (v := .bool _) rfl) ?_
 intro b5 eb5
 refine OpsW.g rfl rfl rfl (fun hB => by simp only [Bool.and_eq_true, beq_iff_eq] at hB; obtain rfl := hB; exact (q_move (v := .int _ _) rfl)) ?_
 refine OpsW.g rfl rfl rfl (fun hB => by simp only [Bool.and_eq_true, beq_iff_eq] at hB; obtain rfl := hB; exact (q_leq rfl rfl)) ?_
 refine OpsW.q rfl (q_and2 rfl rfl rfl) ?_
 refine OpsW.q rfl (q_assign (v := .bool _) rfl) ?_
 refine OpsW.nil ?_
 refine SeqP.go ?_
 refine AW.ret ?_
 refine RetP.mk1 (H' := H) (v1 := .bool _) rfl rfl  (by exact (Hp.le_refl _)) ?_
 refine ⟨?_, rfl⟩
 unfold isK; simp_all
theorem head_con (kind n : Int) (hn : 0 ≤ n ∧ n ≤ 1000000) : Con Tryz.prog w0 25 #[.int .i64 kind, .int .i64 n] H (fun v H' => v = S (headP kind n) ∧ H' = H) := by
 refine Con.intro Tryz.func25 rfl rfl ?_
 refine AW.seq ?_
 refine AW.region ?_
 refine OpsW.q rfl (q_assign (v := S _) rfl) ?_
 refine OpsW.nil ?_
 refine SeqP.go ?_
 refine AW.seq ?_
 refine AW.region ?_
 refine OpsW.q rfl (q_move (v := .int _ _) rfl) ?_
 refine OpsW.q rfl (q_convInt rfl Tryz.underlying5 rfl) ?_
 refine OpsW.q rfl (q_move (v := .int _ _) rfl) ?_
 refine OpsW.q rfl (q_shr rfl rfl (by omega)) ?_
 refine OpsW.q rfl (q_convInt rfl Tryz.underlying5 rfl) ?_
 refine OpsW.q rfl (q_move (v := .int _ _) rfl) ?_
 refine OpsW.q rfl (q_convInt rfl Tryz.underlying5 rfl) ?_
 refine OpsW.m rfl (o_buildSlice (z := .int .u8 0) (vs := nums .u8 [_, _, _, _, _]) Tryz.underlying35 (by kernel_rfl) (by kernel_rfl) rfl (by rfl) (by rfl) (by decide) rfl (ones_all rfl)) ?_
 rintro _ _ ⟨b12, hb12, rfl, rfl⟩
 refine OpsW.q rfl (q_string0 Tryz.underlying35 Tryz.underlying5 Tryz.underlying9 rfl (by exact Hp.set_self) (by simp only [nums_length, List.length_set, List.length_replicate, List.length_take, List.length_drop, List.length_append, List.length_cons, List.length_nil, ofB_length, toB_length]; omega)) ?_
 refine OpsW.q rfl (q_assign (v := S _) rfl) ?_
 refine OpsW.nil ?_
 refine SeqP.go ?_
 refine AW.ret ?_
 refine RetP.mk1 (H' := H) (v1 := S _) rfl rfl  (by exact (Hp.le_set (by first | assumption | exact Hp.set_none (by assumption) (by first | assumption | exact Ne.symm (by assumption)) | exact Hp.set_none (Hp.set_none (by assumption) (by first | assumption | exact Ne.symm (by assumption))) (by first | assumption | exact Ne.symm (by assumption))) (Hp.le_refl _))) ?_
 exact ⟨rfl, rfl⟩
theorem headR_con (kind n : Int) (hn : 0 ≤ n ∧ n ≤ 1000000) : Con Tryz.prog w0 30 #[.int .i64 kind, .int .i64 n] H (fun v H' => v = S (headP kind n) ∧ H' = H) := by
 refine Con.intro Tryz.func30 rfl rfl ?_
 refine AW.seq ?_
 refine AW.region ?_
 refine OpsW.q rfl (q_assign (v := S _) rfl) ?_
 refine OpsW.nil ?_
 refine SeqP.go ?_
 refine AW.seq ?_
 refine AW.region ?_
 refine OpsW.q rfl (q_move (v := .int _ _) rfl) ?_
 refine OpsW.q rfl (q_convInt rfl Tryz.underlying5 rfl) ?_
 refine OpsW.q rfl (q_move (v := .int _ _) rfl) ?_
 refine OpsW.q rfl (q_quoI rfl rfl (by omega)) ?_
 refine OpsW.q rfl (q_convInt rfl Tryz.underlying5 rfl) ?_
 refine OpsW.q rfl (q_move (v := .int _ _) rfl) ?_
 refine OpsW.q rfl (q_remI rfl rfl (by omega)) ?_
 refine OpsW.q rfl (q_convInt rfl Tryz.underlying5 rfl) ?_
 refine OpsW.m rfl (o_buildSlice (z := .int .u8 0) (vs := nums .u8 [_, _, _, _, _]) Tryz.underlying35 (by kernel_rfl) (by kernel_rfl) rfl (by rfl) (by rfl) (by decide) rfl (ones_all rfl)) ?_
 rintro _ _ ⟨b13, hb13, rfl, rfl⟩
 refine OpsW.q rfl (q_string0 Tryz.underlying35 Tryz.underlying5 Tryz.underlying9 rfl (by exact Hp.set_self) (by simp only [nums_length, List.length_set, List.length_replicate, List.length_take, List.length_drop, List.length_append, List.length_cons, List.length_nil, ofB_length, toB_length]; omega)) ?_
 refine OpsW.q rfl (q_assign (v := S _) rfl) ?_
 refine OpsW.nil ?_
 refine SeqP.go ?_
 refine AW.ret ?_
 refine RetP.mk1 (H' := H) (v1 := S _) rfl rfl  (by exact (Hp.le_set (by first | assumption | exact Hp.set_none (by assumption) (by first | assumption | exact Ne.symm (by assumption)) | exact Hp.set_none (Hp.set_none (by assumption) (by first | assumption | exact Ne.symm (by assumption))) (by first | assumption | exact Ne.symm (by assumption))) (Hp.le_refl _))) ?_
 exact ⟨by rw [wrap8_rem] <;> rfl, rfl⟩
theorem frame_con (kind : Int) (body : List UInt8) (hm : body.length ≤ maxLen) : Con Tryz.prog w0 14 #[.int .i64 kind, S body] H (fun v H' => v = .tuple #[S (frameP kind body).1, .int .i64 (frameP kind body).2] ∧ H' = H) := by
 refine Con.intro Tryz.func14 rfl rfl ?_
 refine AW.seq ?_
 refine AW.region ?_
 refine OpsW.q rfl (q_assign (v := S _) rfl) ?_
 refine OpsW.q rfl (q_assign (v := .int _ _) rfl) ?_
 refine OpsW.nil ?_
 refine SeqP.go ?_
 refine AW.seq ?_
 refine AW.block ?_
 refine AW.seq ?_
 refine AW.region ?_
 refine OpsW.q rfl (q_move (v := .int _ _) rfl) ?_
 refine OpsW.x rfl (o_call rfl Tryz.func27 rfl rfl (isKind_con _)) ?_
 refine OpsW.q rfl (q_not rfl) ?_
 refine OpsW.q rfl (q_assign (v := .bool _) rfl) ?_
 refine OpsW.nil ?_
 refine SeqP.go ?_
 refine AW.cond rfl (fun h0 => ?_) (fun h0 => ?_)
 ·
  try simp only [z1, z2, z3, z4, z5, z6, z7, z8, z9, z10, z11, z12, z13, z14] at h0
  refine AW.seq ?_
  refine AW.region ?_
  refine OpsW.q rfl (q_assign (v := S _) rfl) ?_
  refine OpsW.q rfl (q_assign (v := .int _ _) rfl) ?_
  refine OpsW.nil ?_
  refine SeqP.go ?_
  refine AW.ret ?_
  refine BlockP.ret ?_
  refine SeqP.ret ?_
  refine RetP.mk2 (H' := H) (v1 := S _) (v2 := .int _ _) rfl rfl rfl  (by exact (Hp.le_refl _)) ?_
  exact ⟨by first | rw [frameP_kind h0] | rw [frameP_big h0 (by omega)] | rw [frameP_ok h0 (by omega)], rfl⟩
 try simp only [z1, z2, z3, z4, z5, z6, z7, z8, z9, z10, z11, z12, z13, z14] at h0
 refine AW.seq ?_
 refine AW.region ?_
 refine OpsW.q rfl (q_move (v := S _) rfl) ?_
 refine OpsW.q rfl (q_lenS Tryz.underlying9 rfl) ?_
 refine OpsW.q rfl (q_gtr rfl rfl) ?_
 refine OpsW.q rfl (q_assign (v := .bool _) rfl) ?_
 refine OpsW.nil ?_
 refine SeqP.go ?_
 refine AW.cond rfl (fun h1 => ?_) (fun h1 => ?_)
 ·
  try simp only [z1, z2, z3, z4, z5, z6, z7, z8, z9, z10, z11, z12, z13, z14] at h1
  refine AW.seq ?_
  refine AW.region ?_
  refine OpsW.q rfl (q_assign (v := S _) rfl) ?_
  refine OpsW.q rfl (q_assign (v := .int _ _) rfl) ?_
  refine OpsW.nil ?_
  refine SeqP.go ?_
  refine AW.ret ?_
  refine BlockP.ret ?_
  refine SeqP.ret ?_
  refine RetP.mk2 (H' := H) (v1 := S _) (v2 := .int _ _) rfl rfl rfl  (by exact (Hp.le_refl _)) ?_
  exact ⟨by first | rw [frameP_kind h0] | rw [frameP_big h0 (by omega)] | rw [frameP_ok h0 (by omega)], rfl⟩
 try simp only [z1, z2, z3, z4, z5, z6, z7, z8, z9, z10, z11, z12, z13, z14] at h1
 refine AW.skip ?_
 refine BlockP.go ?_
 refine SeqP.go ?_
 refine AW.seq ?_
 refine AW.region ?_
 refine OpsW.q rfl (q_move (v := .int _ _) rfl) ?_
 refine OpsW.q rfl (q_move (v := S _) rfl) ?_
 refine OpsW.q rfl (q_lenS Tryz.underlying9 rfl) ?_
 refine OpsW.x rfl (o_call rfl Tryz.func25 rfl rfl (head_con _ _ (by omega))) ?_
 refine OpsW.q rfl (q_move (v := S _) rfl) ?_
 refine OpsW.q rfl (q_cat rfl rfl (by simp; omega)) ?_
 refine OpsW.q rfl (q_assign (v := S _) rfl) ?_
 refine OpsW.q rfl (q_assign (v := .int _ _) rfl) ?_
 refine OpsW.nil ?_
 refine SeqP.go ?_
 refine AW.ret ?_
 refine RetP.mk2 (H' := H) (v1 := S _) (v2 := .int _ _) rfl rfl rfl  (by exact (Hp.le_refl _)) ?_
 exact ⟨by first | rw [frameP_kind h0] | rw [frameP_big h0 (by omega)] | rw [frameP_ok h0 (by omega)], rfl⟩
theorem NewReader_con : Con Tryz.prog w0 15 #[] H (fun v H' => ∃ b, H b = none ∧ v = .pointer (some ⟨b, 0, none⟩) ∧ H' = H.set b ⟨[S [], .int .i64 0], 2, 66⟩) := by
 refine Con.intro Tryz.func15 rfl rfl ?_
 refine AW.seq ?_
 refine AW.region ?_
 refine OpsW.q rfl (q_assign (v := .pointer _) rfl) ?_
 refine OpsW.nil ?_
 refine SeqP.go ?_
 refine AW.seq ?_
 refine AW.region ?_
 refine OpsW.q rfl (q_build (cells := #[S [], .int .i64 0]) rfl (by kernel_rfl)) ?_
 refine OpsW.m rfl (o_box (v := .agg _) rfl rfl) ?_
 rintro _ _ ⟨b2, hb2, rfl, rfl⟩
 refine OpsW.q rfl (q_assign (v := .pointer _) rfl) ?_
 refine OpsW.nil ?_
 refine SeqP.go ?_
 refine AW.ret ?_
 refine RetP.mk1 (H' := _) (v1 := .pointer _) rfl rfl  (by exact (Hp.le_refl _)) ?_
 exact ⟨_, hb2, rfl, rfl⟩
theorem feed_con {bR : Nat} (s : List UInt8) (e : Int) (d : List UInt8) (hb : H bR = some ⟨[S s, .int .i64 e], 2, 66⟩) (hs : s.length ≤ 1048576) (hd : d.length ≤ 1000000) : Con Tryz.prog w0 16 #[.pointer (some ⟨bR, 0, none⟩), S d] H
  (fun v H' => v = .int .i64 (feedP s e d).1 ∧ H' = H.set bR ⟨[S (feedP s e d).2, .int .i64 e], 2, 66⟩) := by
 refine Con.intro Tryz.func16 rfl rfl ?_
 refine AW.seq ?_
 refine AW.region ?_
 refine OpsW.q rfl (q_assign (v := .int _ _) rfl) ?_
 refine OpsW.nil ?_
 refine SeqP.go ?_
 refine AW.seq ?_
 refine AW.block ?_
 refine AW.seq ?_
 refine AW.region ?_
 refine OpsW.q rfl (q_move (v := .pointer _) rfl) ?_
 refine OpsW.q rfl (q_eqlP Tryz.underlying49 rfl rfl) ?_
 refine OpsW.q rfl (q_assign (v := .bool _) rfl) ?_
 refine OpsW.nil ?_
 refine SeqP.go ?_
 refine AW.cond rfl (fun h0 => ?_) (fun h0 => ?_)
 ·
  exfalso
  try simp only [z1, z2, z3, z4, z5, z6, z7, z8, z9, z10, z11, z12, z13, z14] at h0
  cases h0
 try simp only [z1, z2, z3, z4, z5, z6, z7, z8, z9, z10, z11, z12, z13, z14] at h0
 refine AW.seq ?_
 refine AW.region ?_
 refine OpsW.q rfl (q_move (v := .pointer _) rfl) ?_
 refine OpsW.q rfl (q_nilCheck rfl) ?_
 refine OpsW.q rfl (q_fieldAddr (sz := 0) Tryz.underlying66 rfl (by kernel_rfl) rfl) ?_
 refine OpsW.q rfl (q_load (v := .int _ _) (by kernel_rfl) rfl (by exact (by assumption)) rfl) ?_
 refine OpsW.q rfl (q_neq rfl rfl) ?_
 refine OpsW.q rfl (q_assign (v := .bool _) rfl) ?_
 refine OpsW.nil ?_
 refine SeqP.go ?_
 refine AW.cond rfl (fun h1 => ?_) (fun h1 => ?_)
 ·
  try simp only [z1, z2, z3, z4, z5, z6, z7, z8, z9, z10, z11, z12, z13, z14] at h1
  refine AW.seq ?_
  refine AW.region ?_
  refine OpsW.q rfl (q_move (v := .pointer _) rfl) ?_
  refine OpsW.q rfl (q_nilCheck rfl) ?_
  refine OpsW.q rfl (q_fieldAddr (sz := 0) Tryz.underlying66 rfl (by kernel_rfl) rfl) ?_
  refine OpsW.q rfl (q_load (v := .int _ _) (by kernel_rfl) rfl (by exact (by assumption)) rfl) ?_
  refine OpsW.q rfl (q_assign (v := .int _ _) rfl) ?_
  refine OpsW.nil ?_
  refine SeqP.go ?_
  refine AW.ret ?_
  refine BlockP.ret ?_
  refine SeqP.ret ?_
  refine RetP.mk1 (H' := _) (v1 := .int _ _) rfl rfl  (by exact (Hp.le_refl _)) ?_
  refine ⟨?_, ?_⟩
  ·first | rw [feedP_err (by assumption)] | rw [feedP_big (by omega)] | rw [feedP_ok (by omega)]
  ·first | (rw [feedP_err (by assumption)]; exact (Hp.set_id hb).symm) | (rw [feedP_big (by omega)]; exact (Hp.set_id hb).symm) | (rw [feedP_ok (by omega)] <;> rfl)
 try simp only [z1, z2, z3, z4, z5, z6, z7, z8, z9, z10, z11, z12, z13, z14] at h1
 obtain rfl := h1
 refine AW.seq ?_
 refine AW.region ?_
 refine OpsW.q rfl (q_move (v := .pointer _) rfl) ?_
 refine OpsW.q rfl (q_nilCheck rfl) ?_
 refine OpsW.q rfl (q_fieldAddr (sz := 0) Tryz.underlying66 rfl (by kernel_rfl) rfl) ?_
 refine OpsW.q rfl (q_load (v := S _) (by kernel_rfl) rfl (by exact (by assumption)) rfl) ?_
 refine OpsW.q rfl (q_lenS Tryz.underlying9 rfl) ?_
 refine OpsW.q rfl (q_move (v := S _) rfl) ?_
 refine OpsW.q rfl (q_lenS Tryz.underlying9 rfl) ?_
 refine OpsW.q rfl (q_addI rfl rfl (by omega)) ?_
 refine OpsW.q rfl (q_gtr rfl rfl) ?_
 refine OpsW.q rfl (q_assign (v := .bool _) rfl) ?_
 refine OpsW.nil ?_
 refine SeqP.go ?_
 refine AW.cond rfl (fun h2 => ?_) (fun h2 => ?_)
 ·
  try simp only [z1, z2, z3, z4, z5, z6, z7, z8, z9, z10, z11, z12, z13, z14] at h2
  refine AW.seq ?_
  refine AW.region ?_
  refine OpsW.q rfl (q_assign (v := .int _ _) rfl) ?_
  refine OpsW.nil ?_
  refine SeqP.go ?_
  refine AW.ret ?_
  refine BlockP.ret ?_
  refine SeqP.ret ?_
  refine RetP.mk1 (H' := _) (v1 := .int _ _) rfl rfl  (by exact (Hp.le_refl _)) ?_
  refine ⟨?_, ?_⟩
  ·first | rw [feedP_err (by assumption)] | rw [feedP_big (by omega)] | rw [feedP_ok (by omega)]
  ·first | (rw [feedP_err (by assumption)]; exact (Hp.set_id hb).symm) | (rw [feedP_big (by omega)]; exact (Hp.set_id hb).symm) | (rw [feedP_ok (by omega)] <;> rfl)
 try simp only [z1, z2, z3, z4, z5, z6, z7, z8, z9, z10, z11, z12, z13, z14] at h2
 refine AW.skip ?_
 refine BlockP.go ?_
 refine SeqP.go ?_
 refine AW.seq ?_
 refine AW.region ?_
 refine OpsW.q rfl (q_move (v := .pointer _) rfl) ?_
 refine OpsW.q rfl (q_nilCheck rfl) ?_
 refine OpsW.q rfl (q_fieldAddr (sz := 0) Tryz.underlying66 rfl (by kernel_rfl) rfl) ?_
 refine OpsW.q rfl (q_load (v := S _) (by kernel_rfl) rfl (by exact (by assumption)) rfl) ?_
 refine OpsW.q rfl (q_move (v := S _) rfl) ?_
 refine OpsW.q rfl (q_cat rfl rfl (by omega)) ?_
 refine OpsW.q rfl (q_nilCheck rfl) ?_
 refine OpsW.q rfl (q_fieldAddr (sz := 0) Tryz.underlying66 rfl (by kernel_rfl) rfl) ?_
 refine OpsW.s (o_store (v := S _) (by kernel_rfl) rfl rfl rfl (by exact (by assumption)) (by simp; done)) ?_
 refine OpsW.nil ?_
 refine SeqP.go ?_
 refine AW.seq ?_
 refine AW.region ?_
 refine OpsW.q rfl (q_assign (v := .int _ _) rfl) ?_
 refine OpsW.nil ?_
 refine SeqP.go ?_
 refine AW.ret ?_
 refine RetP.mk1 (H' := _) (v1 := .int _ _) rfl rfl  (by exact (Hp.le_refl _)) ?_
 refine ⟨?_, ?_⟩
 ·first | rw [feedP_err (by assumption)] | rw [feedP_big (by omega)] | rw [feedP_ok (by omega)]
 ·first | (rw [feedP_err (by assumption)]; exact (Hp.set_id hb).symm) | (rw [feedP_big (by omega)]; exact (Hp.set_id hb).symm) | (rw [feedP_ok (by omega)] <;> rfl)
theorem size_con {bR : Nat} (s : List UInt8) {e : Int} (hb : H bR = some ⟨[S s, .int .i64 e], 2, 66⟩) (hs : s.length ≤ 1048576) : Con Tryz.prog w0 34 #[.pointer (some ⟨bR, 0, none⟩)] H (fun v H' => v = .tuple #[.int .i64 (sizeP s).1, .int .i64 (sizeP s).2] ∧ H' = H) := by
 refine Con.intro Tryz.func34 rfl rfl ?_
 refine AW.seq ?_
 refine AW.region ?_
 refine OpsW.q rfl (q_assign (v := .int _ _) rfl) ?_
 refine OpsW.q rfl (q_assign (v := .int _ _) rfl) ?_
 refine OpsW.nil ?_
 refine SeqP.go ?_
 refine AW.seq ?_
 refine AW.seq ?_
 refine AW.drawF [] 11 13 20 (.int .i64 0) rfl (by kernel_rfl) rfl rfl rfl rfl ?_
 refine SeqC.q rfl (q_move (v := .pointer _) rfl) ?_
 refine SeqC.q rfl (q_nilCheck rfl) ?_
 refine SeqC.q rfl (q_fieldAddr (sz := 0) Tryz.underlying66 rfl (by kernel_rfl) rfl) ?_
 refine SeqC.q rfl (q_load (v := S _) (by kernel_rfl) rfl (by exact (by assumption)) rfl) ?_
 refine SeqC.q rfl (q_move (v := .pointer _) rfl) ?_
 refine SeqC.q rfl (q_nilCheck rfl) ?_
 refine SeqC.q rfl (q_fieldAddr (sz := 0) Tryz.underlying66 rfl (by kernel_rfl) rfl) ?_
 refine SeqC.q rfl (q_load (v := S _) (by kernel_rfl) rfl (by exact (by assumption)) rfl) ?_
 refine SeqC.q rfl (q_lenS Tryz.underlying9 rfl) ?_
 refine SeqC.q rfl (q_min rfl rfl) ?_
 refine SeqC.q rfl (q_sliceS_hi Tryz.underlying9 rfl rfl (by omega) (by omega)) ?_
 rw [show (min 3 (s.length : Int)).toNat = min 3 s.length from by omega]
 refine SeqC.done ?_
 refine OpsW.m rfl (o_bytes rfl Tryz.underlying35 Tryz.underlying5 rfl (by simp only [nums_length, List.length_set, List.length_replicate, List.length_take, List.length_drop, List.length_append, List.length_cons, List.length_nil, ofB_length, toB_length]; unfold maxLen; omega)) ?_
 rintro _ _ ⟨b18, c18, hb18, hl18, hc18, rfl, rfl⟩
 have hbR : (H.set b18 ⟨nums .u8 (ofB (s.take (min 3 s.length))), c18, 5⟩) bR = some ⟨[S s, .int .i64 e], 2, 66⟩ := (Hp.set_ne (Hp.ne_of hb18 hb).symm).trans hb
 refine OpsW.q rfl (q_lenV Tryz.underlying35 rfl) ?_
 refine OpsW.nil ?_
 refine SeqP.go ?_
 refine AW.block ?_
 refine AW.loop (fun m e H' => ∃ (i : Nat) (e0 : Env), m = min 3 s.length - i ∧ (i ≤ min 3 s.length ∧ ∀ j, j < i → ¬ badAt s j) ∧ e = upds e0 [(0, .pointer (some ⟨bR, 0, none⟩)), (18, .slice (some ⟨b18, 0, none⟩) (s.take (min 3 s.length)).length c18), (19, .int .i64 (((s.take (min 3 s.length)).length : Nat) : Int)), (20, .int .i64 (i : Int))] ∧ H' = H.set b18 ⟨nums .u8 (ofB (s.take (min 3 s.length))), c18, 5⟩) _ ⟨0, _, rfl, ⟨Nat.zero_le _, by omega⟩, Slots.eq ⟨(by rfl), (by rfl), (by rfl), (by rfl),  trivial⟩, rfl⟩ ?_
 rintro m _ _ ⟨i, e0, rfl, hf, rfl, rfl⟩
 have htl : (s.take (min 3 s.length)).length = min 3 s.length := by simp
 obtain ⟨hi3, hno⟩ := hf
 refine AW.seq ?_
 refine AW.region ?_
 refine OpsW.q rfl (q_lss rfl rfl) ?_
 refine OpsW.nil ?_
 refine SeqP.go ?_
 refine AW.seq ?_
 refine AW.cond2 rfl (fun h0 => ?_) (fun h0 => ?_)
 ·
  try simp only [z1, z2, z3, z4, z5, z6, z7, z8, z9, z10, z11, z12, z13, z14] at h0
  refine AW.exit ?_
  refine SeqP.exit ?_
  refine LoopP.exit ?_
  have hgood : ¬ badP s := fun h => by obtain ⟨j, h1, h2, h3⟩ := badP_iff.1 h; exact hno j (by omega) h3
  refine BlockP.here ?_
  refine SeqP.go ?_
  refine AW.seq ?_
  refine AW.seq ?_
  refine AW.region ?_
  refine OpsW.q rfl (q_move (v := .pointer _) rfl) ?_
  refine OpsW.q rfl (q_nilCheck rfl) ?_
  refine OpsW.q rfl (q_fieldAddr (sz := 0) Tryz.underlying66 rfl (by kernel_rfl) rfl) ?_
  refine OpsW.q rfl (q_load (v := S _) (by kernel_rfl) rfl (by exact (by assumption)) rfl) ?_
  refine OpsW.q rfl (q_lenS Tryz.underlying9 rfl) ?_
  refine OpsW.q rfl (q_lss rfl rfl) ?_
  refine OpsW.nil ?_
  refine SeqP.go ?_
  refine AW.cond rfl (fun h2 => ?_) (fun h2 => ?_)
  ·
   try simp only [z1, z2, z3, z4, z5, z6, z7, z8, z9, z10, z11, z12, z13, z14] at h2
   refine AW.seq ?_
   refine AW.region ?_
   refine OpsW.q rfl (q_assign (v := .int _ _) rfl) ?_
   refine OpsW.q rfl (q_assign (v := .int _ _) rfl) ?_
   refine OpsW.nil ?_
   refine SeqP.go ?_
   refine AW.ret ?_
   refine SeqP.ret ?_
   refine RetP.mk2 (H' := H) (v1 := .int _ _) (v2 := .int _ _) rfl rfl rfl  (by exact (Hp.le_set (by first | assumption | exact Hp.set_none (by assumption) (by first | assumption | exact Ne.symm (by assumption)) | exact Hp.set_none (Hp.set_none (by assumption) (by first | assumption | exact Ne.symm (by assumption))) (by first | assumption | exact Ne.symm (by assumption))) (Hp.le_refl _))) ?_
   exact ⟨by first | rw [sizeP_bad hbad] | rw [sizeP_short hgood (by omega)] | rw [sizeP_big hgood (by omega) (by omega)] | rw [sizeP_wait hgood (by omega) (by omega) (by omega)] | rw [sizeP_ok hgood (by omega) (by omega) (by omega)], rfl⟩
  try simp only [z1, z2, z3, z4, z5, z6, z7, z8, z9, z10, z11, z12, z13, z14] at h2
  refine AW.skip ?_
  refine SeqP.go ?_
  refine AW.seq ?_
  refine AW.drawK [] 13 rfl (by kernel_rfl) ?_
  refine SeqK.q rfl (q_move (v := .pointer _) rfl) ?_
  refine SeqK.q rfl (q_nilCheck rfl) ?_
  refine SeqK.q rfl (q_fieldAddr (sz := 0) Tryz.underlying66 rfl (by kernel_rfl) rfl) ?_
  refine SeqK.q rfl (q_load (v := S _) (by kernel_rfl) rfl (by exact (by assumption)) rfl) ?_
  refine SeqK.q rfl (q_indexS Tryz.underlying9 rfl rfl (by omega) (by omega)) ?_
  refine SeqK.q rfl (q_convInt rfl Tryz.underlying3 rfl) ?_
  refine SeqK.q rfl (q_shl rfl rfl (by omega)) ?_
  refine SeqK.q rfl (q_move (v := .pointer _) rfl) ?_
  refine SeqK.q rfl (q_nilCheck rfl) ?_
  refine SeqK.q rfl (q_fieldAddr (sz := 0) Tryz.underlying66 rfl (by kernel_rfl) rfl) ?_
  refine SeqK.q rfl (q_load (v := S _) (by kernel_rfl) rfl (by exact (by assumption)) rfl) ?_
  refine SeqK.q rfl (q_indexS Tryz.underlying9 rfl rfl (by omega) (by omega)) ?_
  refine SeqK.q rfl (q_convInt rfl Tryz.underlying3 rfl) ?_
  refine SeqK.done ?_
  refine OpsW.q rfl (q_or rfl rfl) ?_
  rw [show ior IntKind.i64 (IntKind.i64.wrap (IntKind.i64.wrap (bt s (Int.toNat 3)) * 2 ^ min (Int.toNat 8) IntKind.i64.bits)) (IntKind.i64.wrap (bt s (Int.toNat 4))) = 256 * bt s 3 + bt s 4 from two_bytes (bt_range s 3) (bt_range s 4)]
  have hb3 := bt_range s 3
  have hb4 := bt_range s 4
  refine OpsW.q rfl (q_assign (v := .int _ _) rfl) ?_
  refine OpsW.nil ?_
  refine SeqP.go ?_
  refine AW.seq ?_
  refine AW.block ?_
  refine AW.seq ?_
  refine AW.region ?_
  refine OpsW.q rfl (q_move (v := .int _ _) rfl) ?_
  refine OpsW.q rfl (q_gtr rfl rfl) ?_
  refine OpsW.q rfl (q_assign (v := .bool _) rfl) ?_
  refine OpsW.nil ?_
  refine SeqP.go ?_
  refine AW.cond rfl (fun h3 => ?_) (fun h3 => ?_)
  ·
   try simp only [z1, z2, z3, z4, z5, z6, z7, z8, z9, z10, z11, z12, z13, z14] at h3
   refine AW.seq ?_
   refine AW.region ?_
   refine OpsW.q rfl (q_assign (v := .int _ _) rfl) ?_
   refine OpsW.q rfl (q_assign (v := .int _ _) rfl) ?_
   refine OpsW.nil ?_
   refine SeqP.go ?_
   refine AW.ret ?_
   refine BlockP.ret ?_
   refine SeqP.ret ?_
   refine RetP.mk2 (H' := H) (v1 := .int _ _) (v2 := .int _ _) rfl rfl rfl  (by exact (Hp.le_set (by first | assumption | exact Hp.set_none (by assumption) (by first | assumption | exact Ne.symm (by assumption)) | exact Hp.set_none (Hp.set_none (by assumption) (by first | assumption | exact Ne.symm (by assumption))) (by first | assumption | exact Ne.symm (by assumption))) (Hp.le_refl _))) ?_
   exact ⟨by first | rw [sizeP_bad hbad] | rw [sizeP_short hgood (by omega)] | rw [sizeP_big hgood (by omega) (by omega)] | rw [sizeP_wait hgood (by omega) (by omega) (by omega)] | rw [sizeP_ok hgood (by omega) (by omega) (by omega)], rfl⟩
  try simp only [z1, z2, z3, z4, z5, z6, z7, z8, z9, z10, z11, z12, z13, z14] at h3
  refine AW.seq ?_
  refine AW.region ?_
  refine OpsW.q rfl (q_move (v := .pointer _) rfl) ?_
  refine OpsW.q rfl (q_nilCheck rfl) ?_
  refine OpsW.q rfl (q_fieldAddr (sz := 0) Tryz.underlying66 rfl (by kernel_rfl) rfl) ?_
  refine OpsW.q rfl (q_load (v := S _) (by kernel_rfl) rfl (by exact (by assumption)) rfl) ?_
  refine OpsW.q rfl (q_lenS Tryz.underlying9 rfl) ?_
  refine OpsW.q rfl (q_move (v := .int _ _) rfl) ?_
  refine OpsW.q rfl (q_addI rfl rfl (by omega)) ?_
  refine OpsW.q rfl (q_lss rfl rfl) ?_
  refine OpsW.q rfl (q_assign (v := .bool _) rfl) ?_
  refine OpsW.nil ?_
  refine SeqP.go ?_
  refine AW.cond rfl (fun h4 => ?_) (fun h4 => ?_)
  ·
   try simp only [z1, z2, z3, z4, z5, z6, z7, z8, z9, z10, z11, z12, z13, z14] at h4
   refine AW.seq ?_
   refine AW.region ?_
   refine OpsW.q rfl (q_assign (v := .int _ _) rfl) ?_
   refine OpsW.q rfl (q_assign (v := .int _ _) rfl) ?_
   refine OpsW.nil ?_
   refine SeqP.go ?_
   refine AW.ret ?_
   refine BlockP.ret ?_
   refine SeqP.ret ?_
   refine RetP.mk2 (H' := H) (v1 := .int _ _) (v2 := .int _ _) rfl rfl rfl  (by exact (Hp.le_set (by first | assumption | exact Hp.set_none (by assumption) (by first | assumption | exact Ne.symm (by assumption)) | exact Hp.set_none (Hp.set_none (by assumption) (by first | assumption | exact Ne.symm (by assumption))) (by first | assumption | exact Ne.symm (by assumption))) (Hp.le_refl _))) ?_
   exact ⟨by first | rw [sizeP_bad hbad] | rw [sizeP_short hgood (by omega)] | rw [sizeP_big hgood (by omega) (by omega)] | rw [sizeP_wait hgood (by omega) (by omega) (by omega)] | rw [sizeP_ok hgood (by omega) (by omega) (by omega)], rfl⟩
  try simp only [z1, z2, z3, z4, z5, z6, z7, z8, z9, z10, z11, z12, z13, z14] at h4
  refine AW.skip ?_
  refine BlockP.go ?_
  refine SeqP.go ?_
  refine AW.seq ?_
  refine AW.region ?_
  refine OpsW.q rfl (q_move (v := .int _ _) rfl) ?_
  refine OpsW.q rfl (q_assign (v := .int _ _) rfl) ?_
  refine OpsW.q rfl (q_assign (v := .int _ _) rfl) ?_
  refine OpsW.nil ?_
  refine SeqP.go ?_
  refine AW.ret ?_
  refine RetP.mk2 (H' := H) (v1 := .int _ _) (v2 := .int _ _) rfl rfl rfl  (by exact (Hp.le_set (by first | assumption | exact Hp.set_none (by assumption) (by first | assumption | exact Ne.symm (by assumption)) | exact Hp.set_none (Hp.set_none (by assumption) (by first | assumption | exact Ne.symm (by assumption))) (by first | assumption | exact Ne.symm (by assumption))) (Hp.le_refl _))) ?_
  exact ⟨by first | rw [sizeP_bad hbad] | rw [sizeP_short hgood (by omega)] | rw [sizeP_big hgood (by omega) (by omega)] | rw [sizeP_wait hgood (by omega) (by omega) (by omega)] | rw [sizeP_ok hgood (by omega) (by omega) (by omega)], rfl⟩
 try simp only [z1, z2, z3, z4, z5, z6, z7, z8, z9, z10, z11, z12, z13, z14] at h0
 refine AW.skip ?_
 refine SeqP.go ?_
 refine AW.seq ?_
 refine AW.block ?_
 refine AW.seq ?_
 refine AW.region ?_
 refine OpsW.q rfl (q_move (v := .int _ _) rfl) ?_
 refine OpsW.q rfl (q_indexAddrV0 Tryz.underlying35 (by kernel_rfl) rfl rfl (by omega) (by omega)) ?_
 refine OpsW.q rfl (q_loadN (by kernel_rfl) rfl (by exact Hp.set_self) (by simp only [nums_length, List.length_set, List.length_replicate, List.length_take, List.length_drop, List.length_append, List.length_cons, List.length_nil, ofB_length, toB_length]; omega)) ?_
 rw [show (ofB (s.take (min 3 s.length))).getD (i : Int).toNat 0 = bt s i from by rw [ofB_getD, Int.toNat_natCast, bt_take s (by omega)]]
 refine OpsW.q rfl (q_assign (v := .int _ _) rfl) ?_
 refine OpsW.q rfl (q_assign (v := .int _ _) rfl) ?_
 refine OpsW.nil ?_
 refine SeqP.go ?_
 refine AW.seq ?_
 refine AW.region ?_
 refine OpsW.q rfl (q_move (v := .int _ _) rfl) ?_
 refine OpsW.q rfl (q_eql rfl rfl) ?_
 refine OpsW.qb rfl (q_move (v := .bool _) rfl) ?_
 intro b27 eb27
 refine OpsW.g rfl rfl rfl (fun hB => by simp only [Bool.and_eq_true, beq_iff_eq] at hB; obtain rfl := hB; exact (q_move (v := .int _ _) rfl)) ?_
 refine OpsW.g rfl rfl rfl (fun hB => by simp only [Bool.and_eq_true, beq_iff_eq] at hB; obtain rfl := hB; exact (q_convInt rfl Tryz.underlying3 rfl)) ?_
 rw [wrap_i64 (x := bt s i) (by have := bt_range s i; omega) (by have := bt_range s i; omega)]
 refine OpsW.g rfl rfl rfl (fun hB => by simp only [Bool.and_eq_true, beq_iff_eq] at hB; obtain rfl := hB; exact (o_call rfl Tryz.func27 rfl rfl (isKind_con _))) ?_
 refine OpsW.g rfl rfl rfl (fun hB => by simp only [Bool.and_eq_true, beq_iff_eq] at hB; obtain rfl := hB; exact (q_not rfl)) ?_
 refine OpsW.q rfl (q_and2 rfl rfl rfl) ?_
 refine OpsW.qb rfl (q_move (v := .bool _) rfl) ?_
 intro b33 eb33
 refine OpsW.g rfl rfl rfl (fun hB => by simp only [Bool.and_eq_true, beq_iff_eq] at hB; obtain rfl := hB; exact (q_move (v := .int _ _) rfl)) ?_
 refine OpsW.g rfl rfl rfl (fun hB => by simp only [Bool.and_eq_true, beq_iff_eq] at hB; obtain rfl := hB; exact (q_gtr rfl rfl)) ?_
 refine OpsW.gb rfl rfl rfl (fun hB => by simp only [Bool.and_eq_true, beq_iff_eq] at hB; obtain rfl := hB; exact (q_move (v := .bool _) rfl)) ?_
 intro b36 eb36
 refine OpsW.gg rfl rfl rfl (fun hB => by simp only [Bool.and_eq_true, beq_iff_eq] at hB; obtain ⟨rfl, rfl⟩ := hB; exact (q_move (v := .int _ _) rfl)) ?_
 refine OpsW.gg rfl rfl rfl (fun hB => by simp only [Bool.and_eq_true, beq_iff_eq] at hB; obtain ⟨rfl, rfl⟩ := hB; exact (q_neq rfl rfl)) ?_
 refine OpsW.g rfl rfl rfl (fun hB => by simp only [Bool.and_eq_true, beq_iff_eq] at hB; obtain rfl := hB; exact (q_and2 rfl rfl rfl)) ?_
 refine OpsW.q rfl (q_or2 rfl rfl rfl) ?_
 refine OpsW.nil ?_
 refine SeqP.go ?_
 refine AW.cond rfl (fun h1 => ?_) (fun h1 => ?_)
 ·
  try simp only [eb27, eb33, eb36, z1, z2, z3, z4, z5, z6, z7, z8, z9, z10, z11, z12, z13, z14] at h1
  have hbad : badP s := badP_of (i := i) (by omega) (by omega) (badAt_of (by simp_all))
  refine AW.seq ?_
  refine AW.region ?_
  refine OpsW.q rfl (q_assign (v := .int _ _) rfl) ?_
  refine OpsW.q rfl (q_assign (v := .int _ _) rfl) ?_
  refine OpsW.nil ?_
  refine SeqP.go ?_
  refine AW.ret ?_
  refine BlockP.ret ?_
  refine SeqP.ret ?_
  refine LoopP.ret ?_
  refine BlockP.ret ?_
  refine SeqP.ret ?_
  refine RetP.mk2 (H' := H) (v1 := .int _ _) (v2 := .int _ _) rfl rfl rfl  (by exact (Hp.le_set (by first | assumption | exact Hp.set_none (by assumption) (by first | assumption | exact Ne.symm (by assumption)) | exact Hp.set_none (Hp.set_none (by assumption) (by first | assumption | exact Ne.symm (by assumption))) (by first | assumption | exact Ne.symm (by assumption))) (Hp.le_refl _))) ?_
  exact ⟨by first | rw [sizeP_bad hbad] | rw [sizeP_short hgood (by omega)] | rw [sizeP_big hgood (by omega) (by omega)] | rw [sizeP_wait hgood (by omega) (by omega) (by omega)] | rw [sizeP_ok hgood (by omega) (by omega) (by omega)], rfl⟩
 try simp only [eb27, eb33, eb36, z1, z2, z3, z4, z5, z6, z7, z8, z9, z10, z11, z12, z13, z14] at h1
 have hok : ¬ badAt s i := by simp_all [badAt] <;> omega
 refine AW.skip ?_
 refine BlockP.go ?_
 refine SeqP.go ?_
 refine AW.region ?_
 refine OpsW.q rfl (q_addI rfl rfl (by omega)) ?_
 refine OpsW.q rfl (q_move (v := .int _ _) rfl) ?_
 refine OpsW.nil ?_
 exact LoopP.go _ (by omega) ⟨i + 1, _, rfl, ⟨by omega, fun j hj => (Nat.lt_or_ge j i).elim (fun hji => hno j hji) (fun hji => by rw [show j = i from by omega]; exact hok)⟩, Slots.eq ⟨(by rfl), (by rfl), (by rfl), (by rfl),  trivial⟩, rfl⟩
theorem next_con {bR : Nat} (s : List UInt8) (e : Int) (hb : H bR = some ⟨[S s, .int .i64 e], 2, 66⟩) (hs : s.length ≤ 1048576) : Con Tryz.prog w0 17 #[.pointer (some ⟨bR, 0, none⟩)] H
  (fun v H' => v = .tuple #[.int .i64 (nextP s e).1.1, S (nextP s e).1.2.1, .int .i64 (nextP s e).1.2.2] ∧ H' = H.set bR ⟨[S (nextP s e).2.1, .int .i64 (nextP s e).2.2], 2, 66⟩) := by
 refine Con.intro Tryz.func17 rfl rfl ?_
 refine AW.seq ?_
 refine AW.region ?_
 refine OpsW.q rfl (q_assign (v := .int _ _) rfl) ?_
 refine OpsW.q rfl (q_assign (v := S _) rfl) ?_
 refine OpsW.q rfl (q_assign (v := .int _ _) rfl) ?_
 refine OpsW.nil ?_
 refine SeqP.go ?_
 refine AW.seq ?_
 refine AW.block ?_
 refine AW.seq ?_
 refine AW.region ?_
 refine OpsW.q rfl (q_move (v := .pointer _) rfl) ?_
 refine OpsW.q rfl (q_eqlP Tryz.underlying49 rfl rfl) ?_
 refine OpsW.q rfl (q_assign (v := .bool _) rfl) ?_
 refine OpsW.nil ?_
 refine SeqP.go ?_
 refine AW.cond rfl (fun h0 => ?_) (fun h0 => ?_)
 ·
  exfalso
  try simp only [z1, z2, z3, z4, z5, z6, z7, z8, z9, z10, z11, z12, z13, z14] at h0
  cases h0
 try simp only [z1, z2, z3, z4, z5, z6, z7, z8, z9, z10, z11, z12, z13, z14] at h0
 refine AW.seq ?_
 refine AW.region ?_
 refine OpsW.q rfl (q_move (v := .pointer _) rfl) ?_
 refine OpsW.q rfl (q_nilCheck rfl) ?_
 refine OpsW.q rfl (q_fieldAddr (sz := 0) Tryz.underlying66 rfl (by kernel_rfl) rfl) ?_
 refine OpsW.q rfl (q_load (v := .int _ _) (by kernel_rfl) rfl (by exact (by assumption)) rfl) ?_
 refine OpsW.q rfl (q_neq rfl rfl) ?_
 refine OpsW.q rfl (q_assign (v := .bool _) rfl) ?_
 refine OpsW.nil ?_
 refine SeqP.go ?_
 refine AW.cond rfl (fun h1 => ?_) (fun h1 => ?_)
 ·
  try simp only [z1, z2, z3, z4, z5, z6, z7, z8, z9, z10, z11, z12, z13, z14] at h1
  refine AW.seq ?_
  refine AW.drawK [] 6 rfl (by kernel_rfl) ?_
  refine SeqK.q rfl (q_move (v := .pointer _) rfl) ?_
  refine SeqK.q rfl (q_nilCheck rfl) ?_
  refine SeqK.q rfl (q_fieldAddr (sz := 0) Tryz.underlying66 rfl (by kernel_rfl) rfl) ?_
  refine SeqK.q rfl (q_load (v := .int _ _) (by kernel_rfl) rfl (by exact (by assumption)) rfl) ?_
  refine SeqK.q rfl (q_assign (v := .int _ _) rfl) ?_
  refine SeqK.q rfl (q_assign (v := S _) rfl) ?_
  refine SeqK.done ?_
  refine OpsW.q rfl (q_assign (v := .int _ _) rfl) ?_
  refine OpsW.nil ?_
  refine SeqP.go ?_
  refine AW.ret ?_
  refine BlockP.ret ?_
  refine SeqP.ret ?_
  refine RetP.mk3 (H' := _) (v1 := .int _ _) (v2 := S _) (v3 := .int _ _) rfl rfl rfl rfl  (by exact (Hp.le_refl _)) ?_
  first | exact ⟨by rw [nextP_err (by assumption)], by rw [nextP_err (by assumption)]; exact (Hp.set_id hb).symm⟩ | exact ⟨by rw [nextP_wrong (by assumption) (by assumption)], by rw [nextP_wrong (by assumption) (by assumption)] <;> rfl⟩ | exact ⟨by rw [nextP_busy (by assumption)] <;> simp_all, by rw [nextP_busy (by assumption)]; exact (Hp.set_id hb).symm⟩ | exact ⟨by rw [nextP_ok (by assumption)] <;> rfl, by rw [nextP_ok (by assumption)] <;> rfl⟩
 try simp only [z1, z2, z3, z4, z5, z6, z7, z8, z9, z10, z11, z12, z13, z14] at h1
 obtain rfl := h1
 refine AW.skip ?_
 refine BlockP.go ?_
 refine SeqP.go ?_
 refine AW.seq ?_
 refine AW.region ?_
 refine OpsW.q rfl (q_move (v := .pointer _) rfl) ?_
 refine OpsW.x rfl (o_call rfl Tryz.func34 rfl rfl (size_con s hb hs)) ?_
 refine OpsW.q rfl (q_move (v := .tuple _) rfl) ?_
 refine OpsW.q rfl (q_extract (v := .int _ _) rfl rfl) ?_
 refine OpsW.q rfl (q_extract (v := .int _ _) rfl rfl) ?_
 refine OpsW.q rfl (q_assign (v := .int _ _) rfl) ?_
 refine OpsW.q rfl (q_assign (v := .int _ _) rfl) ?_
 refine OpsW.nil ?_
 refine SeqP.go ?_
 refine AW.seq ?_
 refine AW.seq ?_
 refine AW.region ?_
 refine OpsW.q rfl (q_move (v := .int _ _) rfl) ?_
 refine OpsW.q rfl (q_neq rfl rfl) ?_
 refine OpsW.nil ?_
 refine SeqP.go ?_
 refine AW.cond rfl (fun h2 => ?_) (fun h2 => ?_)
 ·
  try simp only [z1, z2, z3, z4, z5, z6, z7, z8, z9, z10, z11, z12, z13, z14] at h2
  refine AW.seq ?_
  refine AW.seq ?_
  refine AW.region ?_
  refine OpsW.q rfl (q_move (v := .int _ _) rfl) ?_
  refine OpsW.q rfl (q_neq rfl rfl) ?_
  refine OpsW.nil ?_
  refine SeqP.go ?_
  refine AW.cond rfl (fun h3 => ?_) (fun h3 => ?_)
  ·
   try simp only [z1, z2, z3, z4, z5, z6, z7, z8, z9, z10, z11, z12, z13, z14] at h3
   refine AW.region ?_
   refine OpsW.q rfl (q_move (v := .pointer _) rfl) ?_
   refine OpsW.q rfl (q_move (v := .int _ _) rfl) ?_
   refine OpsW.q rfl (q_nilCheck rfl) ?_
   refine OpsW.q rfl (q_fieldAddr (sz := 0) Tryz.underlying66 rfl (by kernel_rfl) rfl) ?_
   refine OpsW.s (o_store (v := .int _ _) (by kernel_rfl) rfl rfl rfl (by exact (by assumption)) (by simp; done)) ?_
   refine OpsW.nil ?_
   refine SeqP.go ?_
   refine AW.seq ?_
   refine AW.region ?_
   refine OpsW.q rfl (q_move (v := .int _ _) rfl) ?_
   refine OpsW.q rfl (q_assign (v := .int _ _) rfl) ?_
   refine OpsW.q rfl (q_assign (v := S _) rfl) ?_
   refine OpsW.q rfl (q_assign (v := .int _ _) rfl) ?_
   refine OpsW.nil ?_
   refine SeqP.go ?_
   refine AW.ret ?_
   refine SeqP.ret ?_
   refine RetP.mk3 (H' := _) (v1 := .int _ _) (v2 := S _) (v3 := .int _ _) rfl rfl rfl rfl  (by exact (Hp.le_refl _)) ?_
   first | exact ⟨by rw [nextP_err (by assumption)], by rw [nextP_err (by assumption)]; exact (Hp.set_id hb).symm⟩ | exact ⟨by rw [nextP_wrong (by assumption) (by assumption)], by rw [nextP_wrong (by assumption) (by assumption)] <;> rfl⟩ | exact ⟨by rw [nextP_busy (by assumption)] <;> simp_all, by rw [nextP_busy (by assumption)]; exact (Hp.set_id hb).symm⟩ | exact ⟨by rw [nextP_ok (by assumption)] <;> rfl, by rw [nextP_ok (by assumption)] <;> rfl⟩
  try simp only [z1, z2, z3, z4, z5, z6, z7, z8, z9, z10, z11, z12, z13, z14] at h3
  refine AW.skip ?_
  refine SeqP.go ?_
  refine AW.seq ?_
  refine AW.region ?_
  refine OpsW.q rfl (q_move (v := .int _ _) rfl) ?_
  refine OpsW.q rfl (q_assign (v := .int _ _) rfl) ?_
  refine OpsW.q rfl (q_assign (v := S _) rfl) ?_
  refine OpsW.q rfl (q_assign (v := .int _ _) rfl) ?_
  refine OpsW.nil ?_
  refine SeqP.go ?_
  refine AW.ret ?_
  refine SeqP.ret ?_
  refine RetP.mk3 (H' := _) (v1 := .int _ _) (v2 := S _) (v3 := .int _ _) rfl rfl rfl rfl  (by exact (Hp.le_refl _)) ?_
  first | exact ⟨by rw [nextP_err (by assumption)], by rw [nextP_err (by assumption)]; exact (Hp.set_id hb).symm⟩ | exact ⟨by rw [nextP_wrong (by assumption) (by assumption)], by rw [nextP_wrong (by assumption) (by assumption)] <;> rfl⟩ | exact ⟨by rw [nextP_busy (by assumption)] <;> simp_all, by rw [nextP_busy (by assumption)]; exact (Hp.set_id hb).symm⟩ | exact ⟨by rw [nextP_ok (by assumption)] <;> rfl, by rw [nextP_ok (by assumption)] <;> rfl⟩
 try simp only [z1, z2, z3, z4, z5, z6, z7, z8, z9, z10, z11, z12, z13, z14] at h2
 obtain ⟨hz1, hz2, hz3, hz4, hz5, hz6⟩ := sizeP_zero h2
 have hb0 := bt_range s 0
 refine AW.skip ?_
 refine SeqP.go ?_
 refine AW.seq ?_
 refine AW.drawK [] 14 rfl (by kernel_rfl) ?_
 refine SeqK.q rfl (q_move (v := .pointer _) rfl) ?_
 refine SeqK.q rfl (q_nilCheck rfl) ?_
 refine SeqK.q rfl (q_fieldAddr (sz := 0) Tryz.underlying66 rfl (by kernel_rfl) rfl) ?_
 refine SeqK.q rfl (q_load (v := S _) (by kernel_rfl) rfl (by exact (by assumption)) rfl) ?_
 refine SeqK.q rfl (q_indexS Tryz.underlying9 rfl rfl (by omega) (by omega)) ?_
 refine SeqK.q rfl (q_convInt rfl Tryz.underlying3 rfl) ?_
 rw [wrap_i64 (x := bt s (0 : Int).toNat) (by have := bt_range s 0; exact Int.le_trans (by decide) this.1) (by have := bt_range s 0; exact Int.le_trans this.2 (by decide))]
 refine SeqK.q rfl (q_move (v := .pointer _) rfl) ?_
 refine SeqK.q rfl (q_nilCheck rfl) ?_
 refine SeqK.q rfl (q_fieldAddr (sz := 0) Tryz.underlying66 rfl (by kernel_rfl) rfl) ?_
 refine SeqK.q rfl (q_load (v := S _) (by kernel_rfl) rfl (by exact (by assumption)) rfl) ?_
 refine SeqK.q rfl (q_move (v := .int _ _) rfl) ?_
 refine SeqK.q rfl (q_addI rfl rfl (by omega)) ?_
 refine SeqK.q rfl (q_sliceS Tryz.underlying9 rfl rfl rfl (by omega) (by omega) (by omega)) ?_
 refine SeqK.q rfl (q_assign (v := .int _ _) rfl) ?_
 refine SeqK.done ?_
 refine OpsW.q rfl (q_assign (v := S _) rfl) ?_
 refine OpsW.nil ?_
 refine SeqP.go ?_
 refine AW.seq ?_
 refine AW.region ?_
 refine OpsW.q rfl (q_move (v := .pointer _) rfl) ?_
 refine OpsW.q rfl (q_move (v := .pointer _) rfl) ?_
 refine OpsW.q rfl (q_nilCheck rfl) ?_
 refine OpsW.q rfl (q_fieldAddr (sz := 0) Tryz.underlying66 rfl (by kernel_rfl) rfl) ?_
 refine OpsW.q rfl (q_load (v := S _) (by kernel_rfl) rfl (by exact (by assumption)) rfl) ?_
 refine OpsW.q rfl (q_move (v := .int _ _) rfl) ?_
 refine OpsW.q rfl (q_addI rfl rfl (by omega)) ?_
 refine OpsW.q rfl (q_sliceS_lo Tryz.underlying9 rfl rfl (by omega) (by omega)) ?_
 refine OpsW.q rfl (q_nilCheck rfl) ?_
 refine OpsW.q rfl (q_fieldAddr (sz := 0) Tryz.underlying66 rfl (by kernel_rfl) rfl) ?_
 refine OpsW.s (o_store (v := S _) (by kernel_rfl) rfl rfl rfl (by exact (by assumption)) (by simp; done)) ?_
 refine OpsW.nil ?_
 refine SeqP.go ?_
 refine AW.seq ?_
 refine AW.region ?_
 refine OpsW.q rfl (q_move (v := .int _ _) rfl) ?_
 refine OpsW.q rfl (q_move (v := S _) rfl) ?_
 refine OpsW.q rfl (q_assign (v := .int _ _) rfl) ?_
 refine OpsW.q rfl (q_assign (v := S _) rfl) ?_
 refine OpsW.q rfl (q_assign (v := .int _ _) rfl) ?_
 refine OpsW.nil ?_
 refine SeqP.go ?_
 refine AW.ret ?_
 refine RetP.mk3 (H' := _) (v1 := .int _ _) (v2 := S _) (v3 := .int _ _) rfl rfl rfl rfl  (by exact (Hp.le_refl _)) ?_
 first | exact ⟨by rw [nextP_err (by assumption)], by rw [nextP_err (by assumption)]; exact (Hp.set_id hb).symm⟩ | exact ⟨by rw [nextP_wrong (by assumption) (by assumption)], by rw [nextP_wrong (by assumption) (by assumption)] <;> rfl⟩ | exact ⟨by rw [nextP_busy (by assumption)] <;> simp_all, by rw [nextP_busy (by assumption)]; exact (Hp.set_id hb).symm⟩ | exact ⟨by rw [nextP_ok (by assumption)] <;> rfl, by rw [nextP_ok (by assumption)] <;> rfl⟩
end
end Go.Proofs.YtfpoldogcopmpaaGreatDoor
end
section
namespace Go.Proofs.YtfpoldogcopmpaaGreatDoor
open Go Go.Proofs Go.Shelf
def Tryz.lays162_ren : Go.Shelf.Ren := ⟨fun | 162 => 26 | 232 => 47 | 227 => 48 | 234 => 49 | 236 => 50 | 228 => 82 | 271 => 83 | 151 => 84 | 120 => 110 | 197 => 111 | 152 => 112 | 260 => 122 | 137 => 123 | 119 => 124 | 224 => 125 | 225 => 126 | 217 => 131 | 266 => 134 | n => n, fun | 9 => 9 | 4 => 4 | 3 => 3 | 5 => 5 | 117 => 82 | 116 => 81 | 0 => 0 | 124 => 85 | 21 => 21 | 105 => 121 | 46 => 34 | 119 => 173 | 139 => 176 | 138 => 175 | n => n, fun | 3 => 1 | 4 => 2 | n => n⟩
theorem Tryz.lays162 : Go.Proofs.Lays.n162 Tryz.prog Tryz.lays162_ren := {
 mixed := by kernel_rfl
 f119 := Tryz.func124.trans (congrArg some (by kernel_rfl))
 f120 := Tryz.func110.trans (congrArg some (by kernel_rfl))
 f137 := Tryz.func123.trans (congrArg some (by kernel_rfl))
 f151 := Tryz.func84.trans (congrArg some (by kernel_rfl))
 f152 := Tryz.func112.trans (congrArg some (by kernel_rfl))
 f162 := Tryz.func26.trans (congrArg some (by kernel_rfl))
 f197 := Tryz.func111.trans (congrArg some (by kernel_rfl))
 f217 := Tryz.func131.trans (congrArg some (by kernel_rfl))
 f224 := Tryz.func125.trans (congrArg some (by kernel_rfl))
 f225 := Tryz.func126.trans (congrArg some (by kernel_rfl))
 f227 := Tryz.func48.trans (congrArg some (by kernel_rfl))
 f228 := Tryz.func82.trans (congrArg some (by kernel_rfl))
 f232 := Tryz.func47.trans (congrArg some (by kernel_rfl))
 f234 := Tryz.func49.trans (congrArg some (by kernel_rfl))
 f236 := Tryz.func50.trans (congrArg some (by kernel_rfl))
 f260 := Tryz.func122.trans (congrArg some (by kernel_rfl))
 f266 := Tryz.func134.trans (congrArg some (by kernel_rfl))
 f271 := Tryz.func83.trans (congrArg some (by kernel_rfl))
 t0 := Tryz.underlying0
 a0 := Tryz.isAgg0
 z0 := Tryz.sizeOf0
 v0 := Tryz.zeroValue0
 t3 := Tryz.underlying3
 a3 := Tryz.isAgg3
 z3 := Tryz.sizeOf3
 v3 := Tryz.zeroValue3
 t4 := Tryz.underlying4
 a4 := Tryz.isAgg4
 z4 := Tryz.sizeOf4
 v4 := Tryz.zeroValue4
 t5 := Tryz.underlying5
 a5 := Tryz.isAgg5
 z5 := Tryz.sizeOf5
 v5 := Tryz.zeroValue5
 t9 := Tryz.underlying9
 a9 := Tryz.isAgg9
 z9 := Tryz.sizeOf9
 v9 := Tryz.zeroValue9
 t21 := Tryz.underlying21
 a21 := Tryz.isAgg21
 z21 := Tryz.sizeOf21
 v21 := Tryz.zeroValue21
 t46 := Tryz.underlying34
 a46 := Tryz.isAgg34
 z46 := Tryz.sizeOf34
 v46 := Tryz.zeroValue34
 t105 := Tryz.underlying121
 a105 := Tryz.isAgg121
 z105 := Tryz.sizeOf121
 v105 := Tryz.zeroValue121
 t116 := Tryz.underlying81
 a116 := Tryz.isAgg81
 z116 := Tryz.sizeOf81
 t117 := Tryz.underlying82
 a117 := Tryz.isAgg82
 z117 := Tryz.sizeOf82
 v117 := Tryz.zeroValue82
 t119 := Tryz.underlying173
 a119 := Tryz.isAgg173
 z119 := Tryz.sizeOf173
 t124 := Tryz.underlying85
 a124 := Tryz.isAgg85
 z124 := Tryz.sizeOf85
 v124 := Tryz.zeroValue85
 t138 := Tryz.underlying175
 a138 := Tryz.isAgg175
 z138 := Tryz.sizeOf175
 v138 := Tryz.zeroValue175
 t139 := Tryz.underlying176
 a139 := Tryz.isAgg176
 z139 := Tryz.sizeOf176
 v139 := Tryz.zeroValue176
 g3 := by kernel_rfl
 g4 := by kernel_rfl }
open Go.RowKit in
theorem Tryz.strings_TrimRight_one (s : ByteArray) (c : UInt8) (hc : c.toNat < 128) (w : World) (hs : s.size ≤ 9223372036854775807) :
  Calls Tryz.prog 26 #[.string s, .string ⟨#[c]⟩] w fun e w' => e = .returned (.string ⟨(Lib.trimRightB s.data.toList c).toArray⟩) ∧ w' = w := Any.strings_TrimRight_one Tryz.lays162 s c hc w hs
def Tryz.lays105_ren : Go.Shelf.Ren := ⟨fun | 105 => 32 | 212 => 52 | 99 => 53 | 165 => 54 | 166 => 55 | 170 => 56 | 169 => 57 | 263 => 85 | 264 => 86 | 206 => 87 | 240 => 88 | 241 => 89 | 276 => 113 | 277 => 114 | n => n, fun | 9 => 9 | 3 => 3 | 4 => 4 | 20 => 20 | 0 => 0 | 46 => 34 | 109 => 86 | 5 => 5 | 72 => 90 | 76 => 94 | 51 => 100 | 146 => 124 | 53 => 108 | 148 => 126 | 70 => 88 | 37 => 35 | 75 => 93 | 127 => 128 | 164 => 150 | 80 => 96 | n => n, fun | n => n⟩
theorem Tryz.lays105 : Go.Proofs.Lays.n105 Tryz.prog Tryz.lays105_ren := {
 mixed := by kernel_rfl
 f99 := Tryz.func53.trans (congrArg some (by kernel_rfl))
 f105 := Tryz.func32.trans (congrArg some (by kernel_rfl))
 f165 := Tryz.func54.trans (congrArg some (by kernel_rfl))
 f166 := Tryz.func55.trans (congrArg some (by kernel_rfl))
 f169 := Tryz.func57.trans (congrArg some (by kernel_rfl))
 f170 := Tryz.func56.trans (congrArg some (by kernel_rfl))
 f206 := Tryz.func87.trans (congrArg some (by kernel_rfl))
 f212 := Tryz.func52.trans (congrArg some (by kernel_rfl))
 f240 := Tryz.func88.trans (congrArg some (by kernel_rfl))
 f241 := Tryz.func89.trans (congrArg some (by kernel_rfl))
 f263 := Tryz.func85.trans (congrArg some (by kernel_rfl))
 f264 := Tryz.func86.trans (congrArg some (by kernel_rfl))
 f276 := Tryz.func113.trans (congrArg some (by kernel_rfl))
 f277 := Tryz.func114.trans (congrArg some (by kernel_rfl))
 t0 := Tryz.underlying0
 a0 := Tryz.isAgg0
 z0 := Tryz.sizeOf0
 v0 := Tryz.zeroValue0
 t3 := Tryz.underlying3
 a3 := Tryz.isAgg3
 z3 := Tryz.sizeOf3
 v3 := Tryz.zeroValue3
 t4 := Tryz.underlying4
 a4 := Tryz.isAgg4
 z4 := Tryz.sizeOf4
 v4 := Tryz.zeroValue4
 t5 := Tryz.underlying5
 a5 := Tryz.isAgg5
 z5 := Tryz.sizeOf5
 v5 := Tryz.zeroValue5
 t9 := Tryz.underlying9
 a9 := Tryz.isAgg9
 z9 := Tryz.sizeOf9
 v9 := Tryz.zeroValue9
 t20 := Tryz.underlying20
 a20 := Tryz.isAgg20
 z20 := Tryz.sizeOf20
 v20 := Tryz.zeroValue20
 t37 := Tryz.underlying35
 a37 := Tryz.isAgg35
 z37 := Tryz.sizeOf35
 v37 := Tryz.zeroValue35
 t46 := Tryz.underlying34
 a46 := Tryz.isAgg34
 z46 := Tryz.sizeOf34
 v46 := Tryz.zeroValue34
 t51 := Tryz.underlying100
 a51 := Tryz.isAgg100
 z51 := Tryz.sizeOf100
 v51 := Tryz.zeroValue100
 t53 := Tryz.underlying108
 a53 := Tryz.isAgg108
 z53 := Tryz.sizeOf108
 v53 := Tryz.zeroValue108
 t70 := Tryz.underlying88
 a70 := Tryz.isAgg88
 z70 := Tryz.sizeOf88
 v70 := Tryz.zeroValue88
 t72 := Tryz.underlying90
 a72 := Tryz.isAgg90
 z72 := Tryz.sizeOf90
 v72 := Tryz.zeroValue90
 t75 := Tryz.underlying93
 a75 := Tryz.isAgg93
 z75 := Tryz.sizeOf93
 v75 := Tryz.zeroValue93
 t76 := Tryz.underlying94
 a76 := Tryz.isAgg94
 z76 := Tryz.sizeOf94
 v76 := Tryz.zeroValue94
 t109 := Tryz.underlying86
 a109 := Tryz.isAgg86
 z109 := Tryz.sizeOf86
 v109 := Tryz.zeroValue86
 t127 := Tryz.underlying128
 a127 := Tryz.isAgg128
 z127 := Tryz.sizeOf128
 v127 := Tryz.zeroValue128
 t146 := Tryz.underlying124
 a146 := Tryz.isAgg124
 z146 := Tryz.sizeOf124
 v146 := Tryz.zeroValue124
 t148 := Tryz.underlying126
 a148 := Tryz.isAgg126
 z148 := Tryz.sizeOf126
 v148 := Tryz.zeroValue126
 t164 := Tryz.underlying150
 a164 := Tryz.isAgg150
 z164 := Tryz.sizeOf150
 v164 := Tryz.zeroValue150 }
theorem Tryz.Builder_Extra_105 : Builder.Extra Tryz.prog Tryz.lays105_ren := {
 sizeBuilder := by kernel_rfl
 liesBuilder := by kernel_rfl
 t5 := Tryz.underlying5
 a5 := Tryz.isAgg5
 z5 := Tryz.sizeOf5
 v5 := Tryz.zeroValue5
 infoByte := by kernel_rfl
 cellsByte := by kernel_rfl
 sizeByte := by kernel_rfl
 neB5 := by decide }
open Go.RowKit Go.Lib in
theorem Tryz.strings_Repeat (s : ByteArray) (c : Nat) (w : World) (hc : c ≤ 9223372036854775807) (hlen : s.size * c ≤ 140737488355328) :
  Calls Tryz.prog 32 #[.string s, .int .i64 c] w fun e w' => e = .returned (.string ⟨(Lib.repeatL s.data.toList c).toArray⟩) ∧ Below w.heap.size w w' := Any.strings_Repeat Tryz.lays105 Tryz.Builder_Extra_105 s c w hc hlen
end Go.Proofs.YtfpoldogcopmpaaGreatDoor
end
section
namespace Go.Proofs.YtfpoldogcopmpaaGreatDoor.D
open Go Go.RowKit
set_option linter.unusedVariables false
set_option linter.unusedSimpArgs false
section
variable {P : Program} {w0 : World} {n : Nat} {ops : Array Oper} {Q : Post} {H : Hp} {e : Env} {b : Array Bool} {fuel : Nat}
def AnyW (P : Program) (w0 : World) (n : Nat) (ops : Array Oper) (Q : Post) (fuel : Nat) (b : Array Bool) (e : Env) (H : Hp) : Prop :=
 ∀ a w, Fr n e a → Own w0 H w → wpAny P .any ops (lift w0 n Q) fuel b a w
theorem AW.steps {id : Nat} (hm : P.follows .mixedOrders = true) (m : Nat) (hs : ops.size = m) (h : AnyW P w0 n ops Q m (Array.replicate m false) e H) : AW P w0 n (.region id ops true) Q e H := by
 intro a w hf ho
 refine wp_region_any hm ?_
 rw [hs]
 exact h a _ hf ho.drew
/-- In every world. -/
def QV (P : Program) (ρ : Operand → Value) (o : Oper) (v : Value) : Prop := ∀ w, (execOp ρ o).run P w = .ok (.value v) w
theorem AnyW.first {o : Oper} {v : Value} (i : Nat) (hi : ops[i]? = some o) (hsel : Region.noSelect ops = true) (hf : Region.free .any ops b i = true) (hr : (Region.ready .any ops b).contains i = true) (hg : o.guard = none) (hd : dstOk n o.dst = true)
  (h : QV P (D.ev e) o v) (hk : AnyW P w0 n ops Q fuel (b.setIfInBounds i true) (putE e o.dst v) H) : AnyW P w0 n ops Q (fuel + 1) b e H := by
 intro a w hfr ho
 have he : a.eval = D.ev e := funext hfr.ev
 refine wpAny_take hi hsel hf hr (fun c a w h => h.1.elim) (.inl ⟨by simp [Region.wanted, hg], fun w => by rw [he]; exact h w⟩) ?_
 exact hk _ _ (hfr.put hd v) ho
theorem AnyW.only {o : Oper} {R : Value → Hp → Prop} (i : Nat) (hi : ops[i]? = some o) (hr : Region.ready .any ops b = [i]) (hg : o.guard = none) (hd : dstOk n o.dst = true)
  (h : OpR P w0 (D.ev e) o H R) (hk : ∀ v H', R v H' → AnyW P w0 n ops Q fuel (b.setIfInBounds i true) (putE e o.dst v) H') : AnyW P w0 n ops Q (fuel + 1) b e H := by
 intro a w hfr ho
 refine ⟨fun g => absurd (hr.symm.trans g) (by simp), fun j hj => ?_⟩
 rw [hr] at hj
 obtain rfl : j = i := by simpa using hj
 unfold wpOp
 rw [hi]
 simp only [show Region.wanted o (yielded ops a.tmps) = true from by simp [Region.wanted, hg], if_true]
 exact .inl (Res.wp (ops := ops) (Q := Q) hfr ho h fun v H' w' hv ho' => hk v H' hv _ _ (hfr.put hd v) ho')
theorem AnyW.onlyQ {o : Oper} {v : Value} (i : Nat) (hi : ops[i]? = some o) (hr : Region.ready .any ops b = [i]) (hg : o.guard = none) (hd : dstOk n o.dst = true)
  (h : QS P w0 (D.ev e) o H v) (hk : AnyW P w0 n ops Q fuel (b.setIfInBounds i true) (putE e o.dst v) H) : AnyW P w0 n ops Q (fuel + 1) b e H :=
 AnyW.only i hi hr hg hd h (by rintro _ _ ⟨rfl, rfl⟩; exact hk)
/-- Two may come up. -/
theorem AnyW.two {o1 o2 : Oper} {R1 R2 : Value → Hp → Prop} (i j : Nat) (hi : ops[i]? = some o1) (hj : ops[j]? = some o2) (hr : Region.ready .any ops b = [i, j]) (g1 : o1.guard = none) (g2 : o2.guard = none) (d1 : dstOk n o1.dst = true) (d2 : dstOk n o2.dst = true)
  (h1 : OpR P w0 (D.ev e) o1 H R1) (h2 : OpR P w0 (D.ev e) o2 H R2) (k1 : ∀ v H', R1 v H' → AnyW P w0 n ops Q fuel (b.setIfInBounds i true) (putE e o1.dst v) H') (k2 : ∀ v H', R2 v H' → AnyW P w0 n ops Q fuel (b.setIfInBounds j true) (putE e o2.dst v) H') :
  AnyW P w0 n ops Q (fuel + 1) b e H := by
 intro a w hfr ho
 refine ⟨fun g => absurd (hr.symm.trans g) (by simp), fun q hq => ?_⟩
 rw [hr] at hq
 rcases List.mem_cons.1 hq with rfl | hq
 ·unfold wpOp
  rw [hi]
  simp only [show Region.wanted o1 (yielded ops a.tmps) = true from by simp [Region.wanted, g1], if_true]
  exact .inl (Res.wp (ops := ops) (Q := Q) hfr ho h1 fun v H' w' hv ho' => k1 v H' hv _ _ (hfr.put d1 v) ho')
 ·obtain rfl : q = j := by simpa using hq
  unfold wpOp
  rw [hj]
  simp only [show Region.wanted o2 (yielded ops a.tmps) = true from by simp [Region.wanted, g2], if_true]
  exact .inl (Res.wp (ops := ops) (Q := Q) hfr ho h2 fun v H' w' hv ho' => k2 v H' hv _ _ (hfr.put d2 v) ho')
theorem AnyW.done (hr : Region.ready .any ops b = []) (h : Q .normal e H) : AnyW P w0 n ops Q 0 b e H := fun a w hf ho => ⟨hr, trivial, e, H, hf, ho, h⟩
variable {ρ : Operand → Value} {d : Option Tmp} {ty : TypeId} {pos : String} {af : Array Edge} {g : Option (Nat × Bool)}
theorem v_move {x : Operand} {v : Value} (hx : ρ x = v) : QV P ρ ⟨d, .move x, ty, pos, af, g⟩ v := fun w => by subst hx; rfl
end
end Go.Proofs.YtfpoldogcopmpaaGreatDoor.D
end
section
namespace Go.Proofs.YtfpoldogcopmpaaGreatDoor
open Go Go.RowKit D
set_option linter.unusedVariables false
set_option linter.unusedSimpArgs false
set_option maxRecDepth 100000
set_option maxHeartbeats 2000000
section
variable {w0 : World} {H : Hp} {H0 : Hp}
theorem repeatL_zero (c : Nat) : Lib.repeatL [(0 : UInt8)] c = List.replicate c 0 := by
 simpa using Lib.repeatL_replicate 0 1 c
theorem D.Own.below' {w0 w w' : World} {H : Hp} (h : Own w0 H w) (hb : Below w.heap.size w w') : Own w0 H w' := by
 refine ⟨h.below.trans (hb.mono h.below.size), fun b o ho => ?_⟩
 obtain ⟨h1, c, fr, h2, h3⟩ := h.fits b o ho
 refine ⟨h1, c, fr, ?_, h3⟩
 rw [hb.block b (Array.getElem?_eq_some_iff.1 h2).1]
 exact h2
theorem Repeat_con {c : Int} (h0 : 0 ≤ c) (h1 : c ≤ 1000000) : Con Tryz.prog w0 32 #[S [0], .int .i64 c] H (fun v H' => v = S (List.replicate c.toNat 0) ∧ H' = H) := by
 intro w ho
 obtain ⟨k, rfl⟩ := Int.eq_ofNat_of_zero_le h0
 refine (Tryz.strings_Repeat ⟨#[0]⟩ k w (by omega) (by show 1 * k ≤ _; omega)).mono ?_
 rintro e w' ⟨rfl, hb⟩
 refine ⟨_, H, rfl, ho.below' hb, ?_, rfl⟩
 show Value.string _ = _
 rw [repeatL_zero, Int.toNat_natCast]; rfl
theorem NewBox_s (suite : Int) (key iv : List UInt8) : Con Tryz.prog w0 6 #[.int .i64 suite, S key, S iv] H (fun v H' => (¬ boxE suite key iv = 0 ∧ v = .tuple #[.pointer none, .int .i64 (boxE suite key iv)] ∧ H' = H) ∨ (boxE suite key iv = 0 ∧ ∃ b, v = .tuple #[.pointer (some ⟨b, 0, none⟩), .int .i64 0] ∧ Sep H [.blk b (bxBlk ⟨suite, key, iv, 0⟩)] H')) := by
 have hS0 : Sep H [] H := Sep.refl
 refine Con.intro Tryz.func6 rfl rfl ?_
 refine AW.seq ?_
 refine AW.region ?_
 refine OpsW.q rfl (q_assign (v := .pointer _) rfl) ?_
 refine OpsW.q rfl (q_assign (v := .int _ _) rfl) ?_
 refine OpsW.nil ?_
 refine SeqP.go ?_
 refine AW.seq ?_
 refine AW.seq ?_
 refine AW.region ?_
 refine OpsW.q rfl (q_move (v := .int _ _) rfl) ?_
 refine OpsW.q rfl (o_call rfl Tryz.func18 rfl rfl (Size_con _)) ?_
 refine OpsW.q rfl (q_assign (v := .int _ _) rfl) ?_
 refine OpsW.nil ?_
 refine SeqP.go ?_
 refine AW.block ?_
 refine AW.seq ?_
 refine AW.region ?_
 refine OpsW.q rfl (q_move (v := .int _ _) rfl) ?_
 refine OpsW.q rfl (q_eql rfl rfl) ?_
 refine OpsW.q rfl (q_assign (v := .bool _) rfl) ?_
 refine OpsW.nil ?_
 refine SeqP.go ?_
 refine AW.cond rfl (fun h0 => ?_) (fun h0 => ?_)
 ·
  try simp only [z1, z2, z3, z4, z5, z6, z7, z8, z9, z10, z11, z12, z13, z14] at h0
  have he := boxE_arg (key := key) (iv := iv) h0
  refine AW.seq ?_
  refine AW.region ?_
  refine OpsW.q rfl (q_assign (v := .pointer _) rfl) ?_
  refine OpsW.q rfl (q_assign (v := .int _ _) rfl) ?_
  refine OpsW.nil ?_
  refine SeqP.go ?_
  refine AW.ret ?_
  refine BlockP.ret ?_
  refine SeqP.ret ?_
  refine RetP.mk2 (H' := H) (v1 := .pointer _) (v2 := .int _ _) rfl rfl rfl  (Hp.le_refl _) ?_
  exact .inl ⟨by rw [he]; decide, by rw [he], rfl⟩
 try simp only [z1, z2, z3, z4, z5, z6, z7, z8, z9, z10, z11, z12, z13, z14] at h0
 refine AW.seq ?_
 refine AW.region ?_
 refine OpsW.q rfl (q_move (v := S _) rfl) ?_
 refine OpsW.q rfl (q_lenS Tryz.underlying9 rfl) ?_
 refine OpsW.q rfl (q_move (v := .int _ _) rfl) ?_
 refine OpsW.q rfl (q_neq rfl rfl) ?_
 refine OpsW.qb rfl (q_move (v := .bool _) rfl) ?_
 intro b19 eb19
 refine OpsW.g rfl rfl rfl (fun hB => by simp only [Bool.and_eq_true, beq_iff_eq] at hB; obtain rfl := hB; exact (q_move (v := S _) rfl)) ?_
 refine OpsW.g rfl rfl rfl (fun hB => by simp only [Bool.and_eq_true, beq_iff_eq] at hB; obtain rfl := hB; exact (q_lenS Tryz.underlying9 rfl)) ?_
 refine OpsW.g rfl rfl rfl (fun hB => by simp only [Bool.and_eq_true, beq_iff_eq] at hB; obtain rfl := hB; exact (q_neq rfl rfl)) ?_
 refine OpsW.q rfl (q_or2 rfl rfl rfl) ?_
 refine OpsW.q rfl (q_assign (v := .bool _) rfl) ?_
 refine OpsW.nil ?_
 refine SeqP.go ?_
 refine AW.cond rfl (fun h1 => ?_) (fun h1 => ?_)
 ·
  try simp only [eb19, z1, z2, z3, z4, z5, z6, z7, z8, z9, z10, z11, z12, z13, z14] at h1
  have he := boxE_key (key := key) (iv := iv) h0 (by simp_all <;> omega)
  refine AW.seq ?_
  refine AW.region ?_
  refine OpsW.q rfl (q_assign (v := .pointer _) rfl) ?_
  refine OpsW.q rfl (q_assign (v := .int _ _) rfl) ?_
  refine OpsW.nil ?_
  refine SeqP.go ?_
  refine AW.ret ?_
  refine BlockP.ret ?_
  refine SeqP.ret ?_
  refine RetP.mk2 (H' := H) (v1 := .pointer _) (v2 := .int _ _) rfl rfl rfl  (Hp.le_refl _) ?_
  exact .inl ⟨by rw [he]; decide, by rw [he], rfl⟩
 try simp only [eb19, z1, z2, z3, z4, z5, z6, z7, z8, z9, z10, z11, z12, z13, z14] at h1
 have he := boxE_ok (key := key) (iv := iv) h0 (by simp_all <;> omega)
 refine AW.skip ?_
 refine BlockP.go ?_
 refine SeqP.go ?_
 refine AW.seq ?_
 refine AW.region ?_
 refine OpsW.q rfl (q_move (v := .int _ _) rfl) ?_
 refine OpsW.q rfl (q_move (v := S _) rfl) ?_
 refine OpsW.q rfl (q_move (v := S _) rfl) ?_
 refine OpsW.q rfl (q_build (cells := #[.int .i64 suite, S key, S iv, .int .i64 0]) rfl (by kernel_rfl)) ?_
 refine OpsW.m rfl (s_box (v := .agg _) hS0 rfl rfl) ?_
 rintro _ H1 ⟨b28, rfl, hS1⟩
 clear hS0
 refine OpsW.q rfl (q_assign (v := .pointer _) rfl) ?_
 refine OpsW.q rfl (q_assign (v := .int _ _) rfl) ?_
 refine OpsW.nil ?_
 refine SeqP.go ?_
 refine AW.ret ?_
 refine RetP.mk2 (H' := H1) (v1 := .pointer _) (v2 := .int _ _) rfl rfl rfl  (Hp.le_refl _) ?_
 exact .inr ⟨he, b28, rfl, hS1⟩
theorem nonce_con {b : Nat} {x : BoxS} (hb : H b = some (bxBlk x)) (hn0 : 0 ≤ x.n) (hn1 : x.n ≤ 9223372036854775807) : Con Tryz.prog w0 23 #[.pointer (some ⟨b, 0, none⟩)] H (fun v H' => v = .tuple #[S (bxNonce x).1, .int .i64 (bxNonce x).2] ∧ H' = H) := by
 have hS0 : Sep H [] H := Sep.refl
 refine Con.intro Tryz.func23 rfl rfl ?_
 refine AW.seq ?_
 refine AW.region ?_
 refine OpsW.q rfl (q_assign (v := S _) rfl) ?_
 refine OpsW.q rfl (q_assign (v := .int _ _) rfl) ?_
 refine OpsW.nil ?_
 refine SeqP.go ?_
 refine AW.seq ?_
 refine AW.seq ?_
 refine AW.region ?_
 refine OpsW.q rfl (q_move (v := .pointer _) rfl) ?_
 refine OpsW.q rfl (q_nilCheck rfl) ?_
 refine OpsW.q rfl (q_fieldAddr (sz := 0) Tryz.underlying55 rfl (by kernel_rfl) rfl) ?_
 refine OpsW.q rfl (q_load (v := .int _ _) (by kernel_rfl) rfl (hS0.old hb) rfl) ?_
 refine OpsW.q rfl (q_geq rfl rfl) ?_
 refine OpsW.nil ?_
 refine SeqP.go ?_
 refine AW.cond rfl (fun h0 => ?_) (fun h0 => ?_)
 ·
  try simp only [z1, z2, z3, z4, z5, z6, z7, z8, z9, z10, z11, z12, z13, z14] at h0
  rw [bxNonce_seq (by omega)]
  refine AW.seq ?_
  refine AW.region ?_
  refine OpsW.q rfl (q_assign (v := S _) rfl) ?_
  refine OpsW.q rfl (q_assign (v := .int _ _) rfl) ?_
  refine OpsW.nil ?_
  refine SeqP.go ?_
  refine AW.ret ?_
  refine SeqP.ret ?_
  refine RetP.mk2 (H' := H) (v1 := S _) (v2 := .int _ _) rfl rfl rfl  hS0.le ?_
  exact ⟨rfl, rfl⟩
 try simp only [z1, z2, z3, z4, z5, z6, z7, z8, z9, z10, z11, z12, z13, z14] at h0
 rw [bxNonce_go (by omega)]
 refine AW.skip ?_
 refine SeqP.go ?_
 refine AW.seq ?_
 refine AW.drawK [] 11 rfl (by kernel_rfl) ?_
 refine SeqK.q rfl (q_move (v := .pointer _) rfl) ?_
 refine SeqK.q rfl (q_nilCheck rfl) ?_
 refine SeqK.q rfl (q_fieldAddr (sz := 0) Tryz.underlying55 rfl (by kernel_rfl) rfl) ?_
 refine SeqK.q rfl (q_load (v := S _) (by kernel_rfl) rfl (hS0.old hb) rfl) ?_
 refine SeqK.q rfl (q_move (v := .pointer _) rfl) ?_
 refine SeqK.q rfl (q_nilCheck rfl) ?_
 refine SeqK.q rfl (q_fieldAddr (sz := 0) Tryz.underlying55 rfl (by kernel_rfl) rfl) ?_
 refine SeqK.q rfl (q_load (v := .int _ _) (by kernel_rfl) rfl (hS0.old hb) rfl) ?_
 refine SeqK.q rfl (o_call rfl Tryz.func42 rfl rfl (Nonce_con (by omega))) ?_
 refine SeqK.q rfl (q_extract (v := S _) rfl rfl) ?_
 refine SeqK.q rfl (q_extract (v := .int _ _) rfl rfl) ?_
 refine SeqK.done ?_
 refine OpsW.q rfl (q_assign (v := S _) rfl) ?_
 refine OpsW.q rfl (q_assign (v := .int _ _) rfl) ?_
 refine OpsW.nil ?_
 refine SeqP.go ?_
 refine AW.ret ?_
 refine RetP.mk2 (H' := H) (v1 := S _) (v2 := .int _ _) rfl rfl rfl  hS0.le ?_
 exact ⟨rfl, rfl⟩
theorem bSeal_s {b : Nat} {x : BoxS} {plain : List UInt8} (hS0 : Sep H0 [.blk b (bxBlk x)] H) (hbok : BoxOk x) (kind pad : Int) (hp : plain.length ≤ maxLen) : Con Tryz.prog w0 12 #[.pointer (some ⟨b, 0, none⟩), .int .i64 kind, S plain, .int .i64 pad] H (fun v H' => v = .tuple #[S (bxSeal x kind plain pad).1, .int .i64 (bxSeal x kind plain pad).2] ∧ Sep H0 [.blk b (bxBlk (bxAfter x kind plain pad))] H') := by
 obtain ⟨hb1, hb2, hn0, hn1⟩ := hbok
 replace hS0 : Sep H0 [.blk b ⟨[.int .i64 x.suite, S x.key, S x.iv, .int .i64 x.n], 4, 55⟩] H := hS0
 refine Con.intro Tryz.func12 rfl rfl ?_
 refine AW.seq ?_
 refine AW.region ?_
 refine OpsW.q rfl (q_assign (v := S _) rfl) ?_
 refine OpsW.q rfl (q_assign (v := .int _ _) rfl) ?_
 refine OpsW.nil ?_
 refine SeqP.go ?_
 refine AW.seq ?_
 refine AW.block ?_
 refine AW.seq ?_
 refine AW.region ?_
 refine OpsW.q rfl (q_move (v := .pointer _) rfl) ?_
 refine OpsW.q rfl (q_eqlP Tryz.underlying25 rfl rfl) ?_
 refine OpsW.q rfl (q_assign (v := .bool _) rfl) ?_
 refine OpsW.nil ?_
 refine SeqP.go ?_
 refine AW.cond rfl (fun h0 => ?_) (fun h0 => ?_)
 ·
  exfalso
  try simp only [z1, z2, z3, z4, z5, z6, z7, z8, z9, z10, z11, z12, z13, z14] at h0
  first | contradiction | (simp at *; done) | simp_all
 try simp only [z1, z2, z3, z4, z5, z6, z7, z8, z9, z10, z11, z12, z13, z14] at h0
 refine AW.seq ?_
 refine AW.region ?_
 refine OpsW.q rfl (q_move (v := .int _ _) rfl) ?_
 refine OpsW.q rfl (o_call rfl Tryz.func27 rfl rfl (isKind_con _)) ?_
 refine OpsW.q rfl (q_not rfl) ?_
 refine OpsW.qb rfl (q_move (v := .bool _) rfl) ?_
 intro b22 eb22
 refine OpsW.g rfl rfl rfl (fun hB => by simp only [Bool.and_eq_true, beq_iff_eq] at hB; obtain rfl := hB; exact (q_move (v := .int _ _) rfl)) ?_
 refine OpsW.g rfl rfl rfl (fun hB => by simp only [Bool.and_eq_true, beq_iff_eq] at hB; obtain rfl := hB; exact (q_lss rfl rfl)) ?_
 refine OpsW.q rfl (q_or2 rfl rfl rfl) ?_
 refine OpsW.q rfl (q_assign (v := .bool _) rfl) ?_
 refine OpsW.nil ?_
 refine SeqP.go ?_
 refine AW.cond rfl (fun h1 => ?_) (fun h1 => ?_)
 ·
  try simp only [eb22, z1, z2, z3, z4, z5, z6, z7, z8, z9, z10, z11, z12, z13, z14] at h1
  have hbad : isK kind = false ∨ pad < 0 := by simp_all
  obtain ⟨e1, e2⟩ := bx_arg (x := x) (plain := plain) hbad
  rw [e1, e2]
  refine AW.seq ?_
  refine AW.region ?_
  refine OpsW.q rfl (q_assign (v := S _) rfl) ?_
  refine OpsW.q rfl (q_assign (v := .int _ _) rfl) ?_
  refine OpsW.nil ?_
  refine SeqP.go ?_
  refine AW.ret ?_
  refine BlockP.ret ?_
  refine SeqP.ret ?_
  refine RetP.mk2 (H' := _) (v1 := S _) (v2 := .int _ _) rfl rfl rfl  (Hp.le_refl _) ?_
  exact ⟨rfl, hS0⟩
 try simp only [eb22, z1, z2, z3, z4, z5, z6, z7, z8, z9, z10, z11, z12, z13, z14] at h1
 have hgood : isK kind = true ∧ 0 ≤ pad := by simp_all
 refine AW.seq ?_
 refine AW.region ?_
 refine OpsW.q rfl (q_move (v := S _) rfl) ?_
 refine OpsW.q rfl (q_lenS Tryz.underlying9 rfl) ?_
 refine OpsW.q rfl (q_gtr rfl rfl) ?_
 refine OpsW.qb rfl (q_move (v := .bool _) rfl) ?_
 intro b30 eb30
 refine OpsW.g rfl rfl rfl (fun hB => by simp only [Bool.and_eq_true, beq_iff_eq] at hB; obtain rfl := hB; exact (q_move (v := .int _ _) rfl)) ?_
 refine OpsW.g rfl rfl rfl (fun hB => by simp only [Bool.and_eq_true, beq_iff_eq] at hB; obtain rfl := hB; exact (q_move (v := S _) rfl)) ?_
 refine OpsW.g rfl rfl rfl (fun hB => by simp only [Bool.and_eq_true, beq_iff_eq] at hB; obtain rfl := hB; exact (q_lenS Tryz.underlying9 rfl)) ?_
 refine OpsW.g rfl rfl rfl (fun hB => by simp only [Bool.and_eq_true, beq_iff_eq] at hB; obtain rfl := hB; (try simp only [eb22, Bool.true_eq, Bool.false_eq, decide_eq_true_eq, Bool.and_eq_true, Bool.or_eq_true, Bool.or_eq_false_iff, Bool.not_eq_true', decide_eq_false_iff_not, Int.not_lt, Int.not_le] at eb30); exact (q_subI rfl rfl (by omega))) ?_
 refine OpsW.g rfl rfl rfl (fun hB => by simp only [Bool.and_eq_true, beq_iff_eq] at hB; obtain rfl := hB; exact (q_gtr rfl rfl)) ?_
 refine OpsW.q rfl (q_or2 rfl rfl rfl) ?_
 refine OpsW.q rfl (q_assign (v := .bool _) rfl) ?_
 refine OpsW.nil ?_
 refine SeqP.go ?_
 refine AW.cond rfl (fun h2 => ?_) (fun h2 => ?_)
 ·
  try simp only [eb22, eb30, z1, z2, z3, z4, z5, z6, z7, z8, z9, z10, z11, z12, z13, z14] at h2
  have hbig : 16384 < (plain.length : Int) ∨ 16600 - (plain.length : Int) < pad := by simp_all
  obtain ⟨e1, e2⟩ := bx_big (x := x) hgood hbig
  rw [e1, e2]
  refine AW.seq ?_
  refine AW.region ?_
  refine OpsW.q rfl (q_assign (v := S _) rfl) ?_
  refine OpsW.q rfl (q_assign (v := .int _ _) rfl) ?_
  refine OpsW.nil ?_
  refine SeqP.go ?_
  refine AW.ret ?_
  refine BlockP.ret ?_
  refine SeqP.ret ?_
  refine RetP.mk2 (H' := _) (v1 := S _) (v2 := .int _ _) rfl rfl rfl  (Hp.le_refl _) ?_
  exact ⟨rfl, hS0⟩
 try simp only [eb22, eb30, z1, z2, z3, z4, z5, z6, z7, z8, z9, z10, z11, z12, z13, z14] at h2
 have hok : ¬ (16384 < (plain.length : Int) ∨ 16600 - (plain.length : Int) < pad) := by simp_all
 have hil := bxInner_length kind plain hgood.2
 refine AW.skip ?_
 refine BlockP.go ?_
 refine SeqP.go ?_
 refine AW.seq ?_
 refine AW.region ?_
 refine OpsW.q rfl (q_move (v := .pointer _) rfl) ?_
 refine OpsW.q rfl (o_call rfl Tryz.func23 rfl rfl (nonce_con (hS0.blk at0) hn0 (by omega))) ?_
 refine OpsW.q rfl (q_move (v := .tuple _) rfl) ?_
 refine OpsW.q rfl (q_extract (v := S _) rfl rfl) ?_
 refine OpsW.q rfl (q_extract (v := .int _ _) rfl rfl) ?_
 refine OpsW.q rfl (q_assign (v := S _) rfl) ?_
 refine OpsW.q rfl (q_assign (v := .int _ _) rfl) ?_
 refine OpsW.nil ?_
 refine SeqP.go ?_
 refine AW.seq ?_
 refine AW.seq ?_
 refine AW.region ?_
 refine OpsW.q rfl (q_move (v := .int _ _) rfl) ?_
 refine OpsW.q rfl (q_neq rfl rfl) ?_
 refine OpsW.nil ?_
 refine SeqP.go ?_
 refine AW.cond rfl (fun h3 => ?_) (fun h3 => ?_)
 ·
  try simp only [eb22, eb30, z1, z2, z3, z4, z5, z6, z7, z8, z9, z10, z11, z12, z13, z14] at h3
  obtain ⟨e1, e2⟩ := bx_nonce (x := x) hgood hok h3
  rw [e1, e2]
  refine AW.seq ?_
  refine AW.region ?_
  refine OpsW.q rfl (q_move (v := .int _ _) rfl) ?_
  refine OpsW.q rfl (q_assign (v := S _) rfl) ?_
  refine OpsW.q rfl (q_assign (v := .int _ _) rfl) ?_
  refine OpsW.nil ?_
  refine SeqP.go ?_
  refine AW.ret ?_
  refine SeqP.ret ?_
  refine RetP.mk2 (H' := _) (v1 := S _) (v2 := .int _ _) rfl rfl rfl  (Hp.le_refl _) ?_
  exact ⟨rfl, hS0⟩
 try simp only [eb22, eb30, z1, z2, z3, z4, z5, z6, z7, z8, z9, z10, z11, z12, z13, z14] at h3
 have h3z : (bxNonce x).2 = 0 := by simpa using h3
 have hxn : x.n < 65536 := by rcases Int.lt_or_le x.n 65536 with g | g; (exact g); (rw [bxNonce_seq g] at h3z; cases h3z)
 obtain ⟨e1, e2, e3, e4⟩ := bx_full (x := x) ⟨hb1, hb2, hn0, hn1⟩ hxn hgood hok
 refine AW.skip ?_
 refine SeqP.go ?_
 refine AW.seq ?_
 refine AW.steps rfl 10 rfl ?_
 refine AnyW.first 0 rfl (by kernel_rfl) (by kernel_rfl) (by kernel_rfl) rfl (dst_lt rfl) (v_move (v := S _) rfl) ?_
 refine AnyW.first 1 rfl (by kernel_rfl) (by kernel_rfl) (by kernel_rfl) rfl (dst_lt rfl) (v_move (v := .int _ _) rfl) ?_
 refine AnyW.first 6 rfl (by kernel_rfl) (by kernel_rfl) (by kernel_rfl) rfl (dst_lt rfl) (v_move (v := .int _ _) rfl) ?_
 refine AnyW.two 2 7 rfl rfl (by kernel_rfl) rfl rfl (dst_lt rfl) (dst_lt rfl) (q_convInt rfl Tryz.underlying5 rfl) (o_call rfl Tryz.func32 rfl rfl (Repeat_con (by omega) (by omega))) ?_ ?_
 ·
  rintro _ _ ⟨rfl, rfl⟩
  refine AnyW.two 3 7 rfl rfl (by kernel_rfl) rfl rfl (dst_lt rfl) (dst_lt rfl) (s_buildSlice (z := .int .u8 0) (vs := nums .u8 [_]) hS0 Tryz.underlying35 (by kernel_rfl) (by kernel_rfl) rfl (by rfl) (by rfl) (by decide) rfl (nums_one _ _) rfl) (o_call rfl Tryz.func32 rfl rfl (Repeat_con (by omega) (by omega))) ?_ ?_
  ·
   rintro v48 H1 hS1
   clear hS0
   refine AnyW.two 4 7 rfl rfl (by kernel_rfl) rfl rfl (dst_lt rfl) (dst_lt rfl) (q_stringVec (hS1.vec at0) Tryz.underlying35 Tryz.underlying5 Tryz.underlying9 rfl) (o_call rfl Tryz.func32 rfl rfl (Repeat_con (by omega) (by omega))) ?_ ?_
   ·
    rintro _ _ ⟨rfl, rfl⟩
    refine AnyW.two 5 7 rfl rfl (by kernel_rfl) rfl rfl (dst_lt rfl) (dst_lt rfl) (q_cat rfl rfl (by simp only [nums_length, List.length_set, List.length_replicate, List.length_take, List.length_drop, List.length_append, List.length_cons, List.length_nil, ofB_length, toB_length]; omega)) (o_call rfl Tryz.func32 rfl rfl (Repeat_con (by omega) (by omega))) ?_ ?_
    ·
     rintro _ _ ⟨rfl, rfl⟩
     refine AnyW.onlyQ 7 rfl (by kernel_rfl) rfl (dst_lt rfl) (o_call rfl Tryz.func32 rfl rfl (Repeat_con (by omega) (by omega))) ?_
     refine AnyW.onlyQ 8 rfl (by kernel_rfl) rfl (dst_lt rfl) (q_cat rfl rfl (by simp only [nums_length, List.length_set, List.length_replicate, List.length_take, List.length_drop, List.length_append, List.length_cons, List.length_nil, ofB_length, toB_length]; omega)) ?_
     rw [show plain ++ toB [IntKind.u8.wrap kind] ++ List.replicate pad.toNat 0 = bxInner kind plain pad from rfl]
     refine AnyW.onlyQ 9 rfl (by kernel_rfl) rfl (dst_lt rfl) (q_assign (v := S _) rfl) ?_
     refine AnyW.done (by kernel_rfl) ?_
     refine SeqP.go ?_
     refine AW.seq ?_
     refine AW.region ?_
     refine OpsW.q rfl (q_move (v := S _) rfl) ?_
     refine OpsW.q rfl (q_lenS Tryz.underlying9 rfl) ?_
     refine OpsW.q rfl (q_addI rfl rfl (by omega)) ?_
     refine OpsW.q rfl (o_call rfl Tryz.func25 rfl rfl (head_con _ _ (by omega))) ?_
     rw [show headP 23 (((bxInner kind plain pad).length : Int) + 16) = bxHead kind plain pad from rfl]
     have hhl := bxHead_length kind plain pad
     refine OpsW.q rfl (q_assign (v := S _) rfl) ?_
     refine OpsW.nil ?_
     refine SeqP.go ?_
     refine AW.seq ?_
     refine AW.drawK [] 16 rfl (by kernel_rfl) ?_
     refine SeqK.q rfl (q_move (v := .pointer _) rfl) ?_
     refine SeqK.q rfl (q_nilCheck rfl) ?_
     refine SeqK.q rfl (q_fieldAddr (sz := 0) Tryz.underlying55 rfl (by kernel_rfl) rfl) ?_
     refine SeqK.q rfl (q_load (v := .int _ _) (by kernel_rfl) rfl (hS1.blk at1) rfl) ?_
     refine SeqK.q rfl (q_move (v := .pointer _) rfl) ?_
     refine SeqK.q rfl (q_nilCheck rfl) ?_
     refine SeqK.q rfl (q_fieldAddr (sz := 0) Tryz.underlying55 rfl (by kernel_rfl) rfl) ?_
     refine SeqK.q rfl (q_load (v := S _) (by kernel_rfl) rfl (hS1.blk at1) rfl) ?_
     refine SeqK.q rfl (q_move (v := S _) rfl) ?_
     refine SeqK.q rfl (q_move (v := S _) rfl) ?_
     refine SeqK.q rfl (q_move (v := S _) rfl) ?_
     refine SeqK.q rfl (o_call rfl Tryz.func33 rfl rfl (Seal_con (by omega) (by omega))) ?_
     refine SeqK.q rfl (q_move (v := .tuple _) rfl) ?_
     rw [show slSeal x.suite x.key (bxNonce x).1 (bxHead kind plain pad) (bxInner kind plain pad) = bxSealed x kind plain pad from rfl]
     refine SeqK.q rfl (q_extract (v := S _) rfl rfl) ?_
     refine SeqK.q rfl (q_extract (v := .int _ _) rfl rfl) ?_
     refine SeqK.q rfl (q_assign (v := S _) rfl) ?_
     refine SeqK.done ?_
     refine OpsW.q rfl (q_assign (v := .int _ _) rfl) ?_
     refine OpsW.nil ?_
     refine SeqP.go ?_
     refine AW.seq ?_
     refine AW.seq ?_
     refine AW.region ?_
     refine OpsW.q rfl (q_move (v := .int _ _) rfl) ?_
     refine OpsW.q rfl (q_neq rfl rfl) ?_
     refine OpsW.nil ?_
     refine SeqP.go ?_
     refine AW.cond rfl (fun h4 => ?_) (fun h4 => ?_)
     ·
      try simp only [eb22, eb30, z1, z2, z3, z4, z5, z6, z7, z8, z9, z10, z11, z12, z13, z14] at h4
      obtain ⟨e1, e2⟩ := bx_seal (x := x) hgood hok h3z h4
      rw [e1, e2]
      refine AW.seq ?_
      refine AW.region ?_
      refine OpsW.q rfl (q_move (v := .int _ _) rfl) ?_
      refine OpsW.q rfl (q_assign (v := S _) rfl) ?_
      refine OpsW.q rfl (q_assign (v := .int _ _) rfl) ?_
      refine OpsW.nil ?_
      refine SeqP.go ?_
      refine AW.ret ?_
      refine SeqP.ret ?_
      refine RetP.mk2 (H' := _) (v1 := S _) (v2 := .int _ _) rfl rfl rfl  (Hp.le_refl _) ?_
      exact ⟨rfl, hS1.tail⟩
     try simp only [eb22, eb30, z1, z2, z3, z4, z5, z6, z7, z8, z9, z10, z11, z12, z13, z14] at h4
     rw [e1, e2]
     refine AW.skip ?_
     refine SeqP.go ?_
     refine AW.seq ?_
     refine AW.region ?_
     refine OpsW.q rfl (q_move (v := .pointer _) rfl) ?_
     refine OpsW.q rfl (q_nilCheck rfl) ?_
     refine OpsW.q rfl (q_fieldAddr (sz := 0) Tryz.underlying55 rfl (by kernel_rfl) rfl) ?_
     refine OpsW.q rfl (q_load (v := .int _ _) (by kernel_rfl) rfl (hS1.blk at1) rfl) ?_
     refine OpsW.q rfl (q_addI rfl rfl (by omega)) ?_
     refine OpsW.q rfl (q_nilCheck rfl) ?_
     refine OpsW.q rfl (q_fieldAddr (sz := 0) Tryz.underlying55 rfl (by kernel_rfl) rfl) ?_
     refine OpsW.ms (s_storeC (v := .int _ _) hS1 at1 (by kernel_rfl) rfl rfl rfl (by simp; done)) ?_
     rintro _ H2 ⟨rfl, hS2⟩
     clear hS1
     refine OpsW.nil ?_
     refine SeqP.go ?_
     refine AW.seq ?_
     refine AW.region ?_
     refine OpsW.q rfl (q_move (v := S _) rfl) ?_
     refine OpsW.q rfl (q_move (v := S _) rfl) ?_
     refine OpsW.q rfl (q_cat rfl rfl (by omega)) ?_
     refine OpsW.q rfl (q_assign (v := S _) rfl) ?_
     refine OpsW.q rfl (q_assign (v := .int _ _) rfl) ?_
     refine OpsW.nil ?_
     refine SeqP.go ?_
     refine AW.ret ?_
     refine RetP.mk2 (H' := _) (v1 := S _) (v2 := .int _ _) rfl rfl rfl  (Hp.le_refl _) ?_
     exact ⟨rfl, hS2.tail⟩
    ·
     rintro _ _ ⟨rfl, rfl⟩
     refine AnyW.onlyQ 5 rfl (by kernel_rfl) rfl (dst_lt rfl) (q_cat rfl rfl (by simp only [nums_length, List.length_set, List.length_replicate, List.length_take, List.length_drop, List.length_append, List.length_cons, List.length_nil, ofB_length, toB_length]; omega)) ?_
     refine AnyW.onlyQ 8 rfl (by kernel_rfl) rfl (dst_lt rfl) (q_cat rfl rfl (by simp only [nums_length, List.length_set, List.length_replicate, List.length_take, List.length_drop, List.length_append, List.length_cons, List.length_nil, ofB_length, toB_length]; omega)) ?_
     rw [show plain ++ toB [IntKind.u8.wrap kind] ++ List.replicate pad.toNat 0 = bxInner kind plain pad from rfl]
     refine AnyW.onlyQ 9 rfl (by kernel_rfl) rfl (dst_lt rfl) (q_assign (v := S _) rfl) ?_
     refine AnyW.done (by kernel_rfl) ?_
     refine SeqP.go ?_
     refine AW.seq ?_
     refine AW.region ?_
     refine OpsW.q rfl (q_move (v := S _) rfl) ?_
     refine OpsW.q rfl (q_lenS Tryz.underlying9 rfl) ?_
     refine OpsW.q rfl (q_addI rfl rfl (by omega)) ?_
     refine OpsW.q rfl (o_call rfl Tryz.func25 rfl rfl (head_con _ _ (by omega))) ?_
     rw [show headP 23 (((bxInner kind plain pad).length : Int) + 16) = bxHead kind plain pad from rfl]
     have hhl := bxHead_length kind plain pad
     refine OpsW.q rfl (q_assign (v := S _) rfl) ?_
     refine OpsW.nil ?_
     refine SeqP.go ?_
     refine AW.seq ?_
     refine AW.drawK [] 16 rfl (by kernel_rfl) ?_
     refine SeqK.q rfl (q_move (v := .pointer _) rfl) ?_
     refine SeqK.q rfl (q_nilCheck rfl) ?_
     refine SeqK.q rfl (q_fieldAddr (sz := 0) Tryz.underlying55 rfl (by kernel_rfl) rfl) ?_
     refine SeqK.q rfl (q_load (v := .int _ _) (by kernel_rfl) rfl (hS1.blk at1) rfl) ?_
     refine SeqK.q rfl (q_move (v := .pointer _) rfl) ?_
     refine SeqK.q rfl (q_nilCheck rfl) ?_
     refine SeqK.q rfl (q_fieldAddr (sz := 0) Tryz.underlying55 rfl (by kernel_rfl) rfl) ?_
     refine SeqK.q rfl (q_load (v := S _) (by kernel_rfl) rfl (hS1.blk at1) rfl) ?_
     refine SeqK.q rfl (q_move (v := S _) rfl) ?_
     refine SeqK.q rfl (q_move (v := S _) rfl) ?_
     refine SeqK.q rfl (q_move (v := S _) rfl) ?_
     refine SeqK.q rfl (o_call rfl Tryz.func33 rfl rfl (Seal_con (by omega) (by omega))) ?_
     refine SeqK.q rfl (q_move (v := .tuple _) rfl) ?_
     rw [show slSeal x.suite x.key (bxNonce x).1 (bxHead kind plain pad) (bxInner kind plain pad) = bxSealed x kind plain pad from rfl]
     refine SeqK.q rfl (q_extract (v := S _) rfl rfl) ?_
     refine SeqK.q rfl (q_extract (v := .int _ _) rfl rfl) ?_
     refine SeqK.q rfl (q_assign (v := S _) rfl) ?_
     refine SeqK.done ?_
     refine OpsW.q rfl (q_assign (v := .int _ _) rfl) ?_
     refine OpsW.nil ?_
     refine SeqP.go ?_
     refine AW.seq ?_
     refine AW.seq ?_
     refine AW.region ?_
     refine OpsW.q rfl (q_move (v := .int _ _) rfl) ?_
     refine OpsW.q rfl (q_neq rfl rfl) ?_
     refine OpsW.nil ?_
     refine SeqP.go ?_
     refine AW.cond rfl (fun h4 => ?_) (fun h4 => ?_)
     ·
      try simp only [eb22, eb30, z1, z2, z3, z4, z5, z6, z7, z8, z9, z10, z11, z12, z13, z14] at h4
      obtain ⟨e1, e2⟩ := bx_seal (x := x) hgood hok h3z h4
      rw [e1, e2]
      refine AW.seq ?_
      refine AW.region ?_
      refine OpsW.q rfl (q_move (v := .int _ _) rfl) ?_
      refine OpsW.q rfl (q_assign (v := S _) rfl) ?_
      refine OpsW.q rfl (q_assign (v := .int _ _) rfl) ?_
      refine OpsW.nil ?_
      refine SeqP.go ?_
      refine AW.ret ?_
      refine SeqP.ret ?_
      refine RetP.mk2 (H' := _) (v1 := S _) (v2 := .int _ _) rfl rfl rfl  (Hp.le_refl _) ?_
      exact ⟨rfl, hS1.tail⟩
     try simp only [eb22, eb30, z1, z2, z3, z4, z5, z6, z7, z8, z9, z10, z11, z12, z13, z14] at h4
     rw [e1, e2]
     refine AW.skip ?_
     refine SeqP.go ?_
     refine AW.seq ?_
     refine AW.region ?_
     refine OpsW.q rfl (q_move (v := .pointer _) rfl) ?_
     refine OpsW.q rfl (q_nilCheck rfl) ?_
     refine OpsW.q rfl (q_fieldAddr (sz := 0) Tryz.underlying55 rfl (by kernel_rfl) rfl) ?_
     refine OpsW.q rfl (q_load (v := .int _ _) (by kernel_rfl) rfl (hS1.blk at1) rfl) ?_
     refine OpsW.q rfl (q_addI rfl rfl (by omega)) ?_
     refine OpsW.q rfl (q_nilCheck rfl) ?_
     refine OpsW.q rfl (q_fieldAddr (sz := 0) Tryz.underlying55 rfl (by kernel_rfl) rfl) ?_
     refine OpsW.ms (s_storeC (v := .int _ _) hS1 at1 (by kernel_rfl) rfl rfl rfl (by simp; done)) ?_
     rintro _ H3 ⟨rfl, hS3⟩
     clear hS1
     refine OpsW.nil ?_
     refine SeqP.go ?_
     refine AW.seq ?_
     refine AW.region ?_
     refine OpsW.q rfl (q_move (v := S _) rfl) ?_
     refine OpsW.q rfl (q_move (v := S _) rfl) ?_
     refine OpsW.q rfl (q_cat rfl rfl (by omega)) ?_
     refine OpsW.q rfl (q_assign (v := S _) rfl) ?_
     refine OpsW.q rfl (q_assign (v := .int _ _) rfl) ?_
     refine OpsW.nil ?_
     refine SeqP.go ?_
     refine AW.ret ?_
     refine RetP.mk2 (H' := _) (v1 := S _) (v2 := .int _ _) rfl rfl rfl  (Hp.le_refl _) ?_
     exact ⟨rfl, hS3.tail⟩
   ·
    rintro _ _ ⟨rfl, rfl⟩
    refine AnyW.onlyQ 4 rfl (by kernel_rfl) rfl (dst_lt rfl) (q_stringVec (hS1.vec at0) Tryz.underlying35 Tryz.underlying5 Tryz.underlying9 rfl) ?_
    refine AnyW.onlyQ 5 rfl (by kernel_rfl) rfl (dst_lt rfl) (q_cat rfl rfl (by simp only [nums_length, List.length_set, List.length_replicate, List.length_take, List.length_drop, List.length_append, List.length_cons, List.length_nil, ofB_length, toB_length]; omega)) ?_
    refine AnyW.onlyQ 8 rfl (by kernel_rfl) rfl (dst_lt rfl) (q_cat rfl rfl (by simp only [nums_length, List.length_set, List.length_replicate, List.length_take, List.length_drop, List.length_append, List.length_cons, List.length_nil, ofB_length, toB_length]; omega)) ?_
    rw [show plain ++ toB [IntKind.u8.wrap kind] ++ List.replicate pad.toNat 0 = bxInner kind plain pad from rfl]
    refine AnyW.onlyQ 9 rfl (by kernel_rfl) rfl (dst_lt rfl) (q_assign (v := S _) rfl) ?_
    refine AnyW.done (by kernel_rfl) ?_
    refine SeqP.go ?_
    refine AW.seq ?_
    refine AW.region ?_
    refine OpsW.q rfl (q_move (v := S _) rfl) ?_
    refine OpsW.q rfl (q_lenS Tryz.underlying9 rfl) ?_
    refine OpsW.q rfl (q_addI rfl rfl (by omega)) ?_
    refine OpsW.q rfl (o_call rfl Tryz.func25 rfl rfl (head_con _ _ (by omega))) ?_
    rw [show headP 23 (((bxInner kind plain pad).length : Int) + 16) = bxHead kind plain pad from rfl]
    have hhl := bxHead_length kind plain pad
    refine OpsW.q rfl (q_assign (v := S _) rfl) ?_
    refine OpsW.nil ?_
    refine SeqP.go ?_
    refine AW.seq ?_
    refine AW.drawK [] 16 rfl (by kernel_rfl) ?_
    refine SeqK.q rfl (q_move (v := .pointer _) rfl) ?_
    refine SeqK.q rfl (q_nilCheck rfl) ?_
    refine SeqK.q rfl (q_fieldAddr (sz := 0) Tryz.underlying55 rfl (by kernel_rfl) rfl) ?_
    refine SeqK.q rfl (q_load (v := .int _ _) (by kernel_rfl) rfl (hS1.blk at1) rfl) ?_
    refine SeqK.q rfl (q_move (v := .pointer _) rfl) ?_
    refine SeqK.q rfl (q_nilCheck rfl) ?_
    refine SeqK.q rfl (q_fieldAddr (sz := 0) Tryz.underlying55 rfl (by kernel_rfl) rfl) ?_
    refine SeqK.q rfl (q_load (v := S _) (by kernel_rfl) rfl (hS1.blk at1) rfl) ?_
    refine SeqK.q rfl (q_move (v := S _) rfl) ?_
    refine SeqK.q rfl (q_move (v := S _) rfl) ?_
    refine SeqK.q rfl (q_move (v := S _) rfl) ?_
    refine SeqK.q rfl (o_call rfl Tryz.func33 rfl rfl (Seal_con (by omega) (by omega))) ?_
    refine SeqK.q rfl (q_move (v := .tuple _) rfl) ?_
    rw [show slSeal x.suite x.key (bxNonce x).1 (bxHead kind plain pad) (bxInner kind plain pad) = bxSealed x kind plain pad from rfl]
    refine SeqK.q rfl (q_extract (v := S _) rfl rfl) ?_
    refine SeqK.q rfl (q_extract (v := .int _ _) rfl rfl) ?_
    refine SeqK.q rfl (q_assign (v := S _) rfl) ?_
    refine SeqK.done ?_
    refine OpsW.q rfl (q_assign (v := .int _ _) rfl) ?_
    refine OpsW.nil ?_
    refine SeqP.go ?_
    refine AW.seq ?_
    refine AW.seq ?_
    refine AW.region ?_
    refine OpsW.q rfl (q_move (v := .int _ _) rfl) ?_
    refine OpsW.q rfl (q_neq rfl rfl) ?_
    refine OpsW.nil ?_
    refine SeqP.go ?_
    refine AW.cond rfl (fun h4 => ?_) (fun h4 => ?_)
    ·
     try simp only [eb22, eb30, z1, z2, z3, z4, z5, z6, z7, z8, z9, z10, z11, z12, z13, z14] at h4
     obtain ⟨e1, e2⟩ := bx_seal (x := x) hgood hok h3z h4
     rw [e1, e2]
     refine AW.seq ?_
     refine AW.region ?_
     refine OpsW.q rfl (q_move (v := .int _ _) rfl) ?_
     refine OpsW.q rfl (q_assign (v := S _) rfl) ?_
     refine OpsW.q rfl (q_assign (v := .int _ _) rfl) ?_
     refine OpsW.nil ?_
     refine SeqP.go ?_
     refine AW.ret ?_
     refine SeqP.ret ?_
     refine RetP.mk2 (H' := _) (v1 := S _) (v2 := .int _ _) rfl rfl rfl  (Hp.le_refl _) ?_
     exact ⟨rfl, hS1.tail⟩
    try simp only [eb22, eb30, z1, z2, z3, z4, z5, z6, z7, z8, z9, z10, z11, z12, z13, z14] at h4
    rw [e1, e2]
    refine AW.skip ?_
    refine SeqP.go ?_
    refine AW.seq ?_
    refine AW.region ?_
    refine OpsW.q rfl (q_move (v := .pointer _) rfl) ?_
    refine OpsW.q rfl (q_nilCheck rfl) ?_
    refine OpsW.q rfl (q_fieldAddr (sz := 0) Tryz.underlying55 rfl (by kernel_rfl) rfl) ?_
    refine OpsW.q rfl (q_load (v := .int _ _) (by kernel_rfl) rfl (hS1.blk at1) rfl) ?_
    refine OpsW.q rfl (q_addI rfl rfl (by omega)) ?_
    refine OpsW.q rfl (q_nilCheck rfl) ?_
    refine OpsW.q rfl (q_fieldAddr (sz := 0) Tryz.underlying55 rfl (by kernel_rfl) rfl) ?_
    refine OpsW.ms (s_storeC (v := .int _ _) hS1 at1 (by kernel_rfl) rfl rfl rfl (by simp; done)) ?_
    rintro _ H4 ⟨rfl, hS4⟩
    clear hS1
    refine OpsW.nil ?_
    refine SeqP.go ?_
    refine AW.seq ?_
    refine AW.region ?_
    refine OpsW.q rfl (q_move (v := S _) rfl) ?_
    refine OpsW.q rfl (q_move (v := S _) rfl) ?_
    refine OpsW.q rfl (q_cat rfl rfl (by omega)) ?_
    refine OpsW.q rfl (q_assign (v := S _) rfl) ?_
    refine OpsW.q rfl (q_assign (v := .int _ _) rfl) ?_
    refine OpsW.nil ?_
    refine SeqP.go ?_
    refine AW.ret ?_
    refine RetP.mk2 (H' := _) (v1 := S _) (v2 := .int _ _) rfl rfl rfl  (Hp.le_refl _) ?_
    exact ⟨rfl, hS4.tail⟩
  ·
   rintro _ _ ⟨rfl, rfl⟩
   refine AnyW.only 3 rfl (by kernel_rfl) rfl (dst_lt rfl) (s_buildSlice (z := .int .u8 0) (vs := nums .u8 [_]) hS0 Tryz.underlying35 (by kernel_rfl) (by kernel_rfl) rfl (by rfl) (by rfl) (by decide) rfl (nums_one _ _) rfl) ?_
   rintro v48 H5 hS5
   clear hS0
   refine AnyW.onlyQ 4 rfl (by kernel_rfl) rfl (dst_lt rfl) (q_stringVec (hS5.vec at0) Tryz.underlying35 Tryz.underlying5 Tryz.underlying9 rfl) ?_
   refine AnyW.onlyQ 5 rfl (by kernel_rfl) rfl (dst_lt rfl) (q_cat rfl rfl (by simp only [nums_length, List.length_set, List.length_replicate, List.length_take, List.length_drop, List.length_append, List.length_cons, List.length_nil, ofB_length, toB_length]; omega)) ?_
   refine AnyW.onlyQ 8 rfl (by kernel_rfl) rfl (dst_lt rfl) (q_cat rfl rfl (by simp only [nums_length, List.length_set, List.length_replicate, List.length_take, List.length_drop, List.length_append, List.length_cons, List.length_nil, ofB_length, toB_length]; omega)) ?_
   rw [show plain ++ toB [IntKind.u8.wrap kind] ++ List.replicate pad.toNat 0 = bxInner kind plain pad from rfl]
   refine AnyW.onlyQ 9 rfl (by kernel_rfl) rfl (dst_lt rfl) (q_assign (v := S _) rfl) ?_
   refine AnyW.done (by kernel_rfl) ?_
   refine SeqP.go ?_
   refine AW.seq ?_
   refine AW.region ?_
   refine OpsW.q rfl (q_move (v := S _) rfl) ?_
   refine OpsW.q rfl (q_lenS Tryz.underlying9 rfl) ?_
   refine OpsW.q rfl (q_addI rfl rfl (by omega)) ?_
   refine OpsW.q rfl (o_call rfl Tryz.func25 rfl rfl (head_con _ _ (by omega))) ?_
   rw [show headP 23 (((bxInner kind plain pad).length : Int) + 16) = bxHead kind plain pad from rfl]
   have hhl := bxHead_length kind plain pad
   refine OpsW.q rfl (q_assign (v := S _) rfl) ?_
   refine OpsW.nil ?_
   refine SeqP.go ?_
   refine AW.seq ?_
   refine AW.drawK [] 16 rfl (by kernel_rfl) ?_
   refine SeqK.q rfl (q_move (v := .pointer _) rfl) ?_
   refine SeqK.q rfl (q_nilCheck rfl) ?_
   refine SeqK.q rfl (q_fieldAddr (sz := 0) Tryz.underlying55 rfl (by kernel_rfl) rfl) ?_
   refine SeqK.q rfl (q_load (v := .int _ _) (by kernel_rfl) rfl (hS5.blk at1) rfl) ?_
   refine SeqK.q rfl (q_move (v := .pointer _) rfl) ?_
   refine SeqK.q rfl (q_nilCheck rfl) ?_
   refine SeqK.q rfl (q_fieldAddr (sz := 0) Tryz.underlying55 rfl (by kernel_rfl) rfl) ?_
   refine SeqK.q rfl (q_load (v := S _) (by kernel_rfl) rfl (hS5.blk at1) rfl) ?_
   refine SeqK.q rfl (q_move (v := S _) rfl) ?_
   refine SeqK.q rfl (q_move (v := S _) rfl) ?_
   refine SeqK.q rfl (q_move (v := S _) rfl) ?_
   refine SeqK.q rfl (o_call rfl Tryz.func33 rfl rfl (Seal_con (by omega) (by omega))) ?_
   refine SeqK.q rfl (q_move (v := .tuple _) rfl) ?_
   rw [show slSeal x.suite x.key (bxNonce x).1 (bxHead kind plain pad) (bxInner kind plain pad) = bxSealed x kind plain pad from rfl]
   refine SeqK.q rfl (q_extract (v := S _) rfl rfl) ?_
   refine SeqK.q rfl (q_extract (v := .int _ _) rfl rfl) ?_
   refine SeqK.q rfl (q_assign (v := S _) rfl) ?_
   refine SeqK.done ?_
   refine OpsW.q rfl (q_assign (v := .int _ _) rfl) ?_
   refine OpsW.nil ?_
   refine SeqP.go ?_
   refine AW.seq ?_
   refine AW.seq ?_
   refine AW.region ?_
   refine OpsW.q rfl (q_move (v := .int _ _) rfl) ?_
   refine OpsW.q rfl (q_neq rfl rfl) ?_
   refine OpsW.nil ?_
   refine SeqP.go ?_
   refine AW.cond rfl (fun h4 => ?_) (fun h4 => ?_)
   ·
    try simp only [eb22, eb30, z1, z2, z3, z4, z5, z6, z7, z8, z9, z10, z11, z12, z13, z14] at h4
    obtain ⟨e1, e2⟩ := bx_seal (x := x) hgood hok h3z h4
    rw [e1, e2]
    refine AW.seq ?_
    refine AW.region ?_
    refine OpsW.q rfl (q_move (v := .int _ _) rfl) ?_
    refine OpsW.q rfl (q_assign (v := S _) rfl) ?_
    refine OpsW.q rfl (q_assign (v := .int _ _) rfl) ?_
    refine OpsW.nil ?_
    refine SeqP.go ?_
    refine AW.ret ?_
    refine SeqP.ret ?_
    refine RetP.mk2 (H' := _) (v1 := S _) (v2 := .int _ _) rfl rfl rfl  (Hp.le_refl _) ?_
    exact ⟨rfl, hS5.tail⟩
   try simp only [eb22, eb30, z1, z2, z3, z4, z5, z6, z7, z8, z9, z10, z11, z12, z13, z14] at h4
   rw [e1, e2]
   refine AW.skip ?_
   refine SeqP.go ?_
   refine AW.seq ?_
   refine AW.region ?_
   refine OpsW.q rfl (q_move (v := .pointer _) rfl) ?_
   refine OpsW.q rfl (q_nilCheck rfl) ?_
   refine OpsW.q rfl (q_fieldAddr (sz := 0) Tryz.underlying55 rfl (by kernel_rfl) rfl) ?_
   refine OpsW.q rfl (q_load (v := .int _ _) (by kernel_rfl) rfl (hS5.blk at1) rfl) ?_
   refine OpsW.q rfl (q_addI rfl rfl (by omega)) ?_
   refine OpsW.q rfl (q_nilCheck rfl) ?_
   refine OpsW.q rfl (q_fieldAddr (sz := 0) Tryz.underlying55 rfl (by kernel_rfl) rfl) ?_
   refine OpsW.ms (s_storeC (v := .int _ _) hS5 at1 (by kernel_rfl) rfl rfl rfl (by simp; done)) ?_
   rintro _ H6 ⟨rfl, hS6⟩
   clear hS5
   refine OpsW.nil ?_
   refine SeqP.go ?_
   refine AW.seq ?_
   refine AW.region ?_
   refine OpsW.q rfl (q_move (v := S _) rfl) ?_
   refine OpsW.q rfl (q_move (v := S _) rfl) ?_
   refine OpsW.q rfl (q_cat rfl rfl (by omega)) ?_
   refine OpsW.q rfl (q_assign (v := S _) rfl) ?_
   refine OpsW.q rfl (q_assign (v := .int _ _) rfl) ?_
   refine OpsW.nil ?_
   refine SeqP.go ?_
   refine AW.ret ?_
   refine RetP.mk2 (H' := _) (v1 := S _) (v2 := .int _ _) rfl rfl rfl  (Hp.le_refl _) ?_
   exact ⟨rfl, hS6.tail⟩
 ·
  rintro _ _ ⟨rfl, rfl⟩
  refine AnyW.onlyQ 2 rfl (by kernel_rfl) rfl (dst_lt rfl) (q_convInt rfl Tryz.underlying5 rfl) ?_
  refine AnyW.only 3 rfl (by kernel_rfl) rfl (dst_lt rfl) (s_buildSlice (z := .int .u8 0) (vs := nums .u8 [_]) hS0 Tryz.underlying35 (by kernel_rfl) (by kernel_rfl) rfl (by rfl) (by rfl) (by decide) rfl (nums_one _ _) rfl) ?_
  rintro v48 H7 hS7
  clear hS0
  refine AnyW.onlyQ 4 rfl (by kernel_rfl) rfl (dst_lt rfl) (q_stringVec (hS7.vec at0) Tryz.underlying35 Tryz.underlying5 Tryz.underlying9 rfl) ?_
  refine AnyW.onlyQ 5 rfl (by kernel_rfl) rfl (dst_lt rfl) (q_cat rfl rfl (by simp only [nums_length, List.length_set, List.length_replicate, List.length_take, List.length_drop, List.length_append, List.length_cons, List.length_nil, ofB_length, toB_length]; omega)) ?_
  refine AnyW.onlyQ 8 rfl (by kernel_rfl) rfl (dst_lt rfl) (q_cat rfl rfl (by simp only [nums_length, List.length_set, List.length_replicate, List.length_take, List.length_drop, List.length_append, List.length_cons, List.length_nil, ofB_length, toB_length]; omega)) ?_
  rw [show plain ++ toB [IntKind.u8.wrap kind] ++ List.replicate pad.toNat 0 = bxInner kind plain pad from rfl]
  refine AnyW.onlyQ 9 rfl (by kernel_rfl) rfl (dst_lt rfl) (q_assign (v := S _) rfl) ?_
  refine AnyW.done (by kernel_rfl) ?_
  refine SeqP.go ?_
  refine AW.seq ?_
  refine AW.region ?_
  refine OpsW.q rfl (q_move (v := S _) rfl) ?_
  refine OpsW.q rfl (q_lenS Tryz.underlying9 rfl) ?_
  refine OpsW.q rfl (q_addI rfl rfl (by omega)) ?_
  refine OpsW.q rfl (o_call rfl Tryz.func25 rfl rfl (head_con _ _ (by omega))) ?_
  rw [show headP 23 (((bxInner kind plain pad).length : Int) + 16) = bxHead kind plain pad from rfl]
  have hhl := bxHead_length kind plain pad
  refine OpsW.q rfl (q_assign (v := S _) rfl) ?_
  refine OpsW.nil ?_
  refine SeqP.go ?_
  refine AW.seq ?_
  refine AW.drawK [] 16 rfl (by kernel_rfl) ?_
  refine SeqK.q rfl (q_move (v := .pointer _) rfl) ?_
  refine SeqK.q rfl (q_nilCheck rfl) ?_
  refine SeqK.q rfl (q_fieldAddr (sz := 0) Tryz.underlying55 rfl (by kernel_rfl) rfl) ?_
  refine SeqK.q rfl (q_load (v := .int _ _) (by kernel_rfl) rfl (hS7.blk at1) rfl) ?_
  refine SeqK.q rfl (q_move (v := .pointer _) rfl) ?_
  refine SeqK.q rfl (q_nilCheck rfl) ?_
  refine SeqK.q rfl (q_fieldAddr (sz := 0) Tryz.underlying55 rfl (by kernel_rfl) rfl) ?_
  refine SeqK.q rfl (q_load (v := S _) (by kernel_rfl) rfl (hS7.blk at1) rfl) ?_
  refine SeqK.q rfl (q_move (v := S _) rfl) ?_
  refine SeqK.q rfl (q_move (v := S _) rfl) ?_
  refine SeqK.q rfl (q_move (v := S _) rfl) ?_
  refine SeqK.q rfl (o_call rfl Tryz.func33 rfl rfl (Seal_con (by omega) (by omega))) ?_
  refine SeqK.q rfl (q_move (v := .tuple _) rfl) ?_
  rw [show slSeal x.suite x.key (bxNonce x).1 (bxHead kind plain pad) (bxInner kind plain pad) = bxSealed x kind plain pad from rfl]
  refine SeqK.q rfl (q_extract (v := S _) rfl rfl) ?_
  refine SeqK.q rfl (q_extract (v := .int _ _) rfl rfl) ?_
  refine SeqK.q rfl (q_assign (v := S _) rfl) ?_
  refine SeqK.done ?_
  refine OpsW.q rfl (q_assign (v := .int _ _) rfl) ?_
  refine OpsW.nil ?_
  refine SeqP.go ?_
  refine AW.seq ?_
  refine AW.seq ?_
  refine AW.region ?_
  refine OpsW.q rfl (q_move (v := .int _ _) rfl) ?_
  refine OpsW.q rfl (q_neq rfl rfl) ?_
  refine OpsW.nil ?_
  refine SeqP.go ?_
  refine AW.cond rfl (fun h4 => ?_) (fun h4 => ?_)
  ·
   try simp only [eb22, eb30, z1, z2, z3, z4, z5, z6, z7, z8, z9, z10, z11, z12, z13, z14] at h4
   obtain ⟨e1, e2⟩ := bx_seal (x := x) hgood hok h3z h4
   rw [e1, e2]
   refine AW.seq ?_
   refine AW.region ?_
   refine OpsW.q rfl (q_move (v := .int _ _) rfl) ?_
   refine OpsW.q rfl (q_assign (v := S _) rfl) ?_
   refine OpsW.q rfl (q_assign (v := .int _ _) rfl) ?_
   refine OpsW.nil ?_
   refine SeqP.go ?_
   refine AW.ret ?_
   refine SeqP.ret ?_
   refine RetP.mk2 (H' := _) (v1 := S _) (v2 := .int _ _) rfl rfl rfl  (Hp.le_refl _) ?_
   exact ⟨rfl, hS7.tail⟩
  try simp only [eb22, eb30, z1, z2, z3, z4, z5, z6, z7, z8, z9, z10, z11, z12, z13, z14] at h4
  rw [e1, e2]
  refine AW.skip ?_
  refine SeqP.go ?_
  refine AW.seq ?_
  refine AW.region ?_
  refine OpsW.q rfl (q_move (v := .pointer _) rfl) ?_
  refine OpsW.q rfl (q_nilCheck rfl) ?_
  refine OpsW.q rfl (q_fieldAddr (sz := 0) Tryz.underlying55 rfl (by kernel_rfl) rfl) ?_
  refine OpsW.q rfl (q_load (v := .int _ _) (by kernel_rfl) rfl (hS7.blk at1) rfl) ?_
  refine OpsW.q rfl (q_addI rfl rfl (by omega)) ?_
  refine OpsW.q rfl (q_nilCheck rfl) ?_
  refine OpsW.q rfl (q_fieldAddr (sz := 0) Tryz.underlying55 rfl (by kernel_rfl) rfl) ?_
  refine OpsW.ms (s_storeC (v := .int _ _) hS7 at1 (by kernel_rfl) rfl rfl rfl (by simp; done)) ?_
  rintro _ H8 ⟨rfl, hS8⟩
  clear hS7
  refine OpsW.nil ?_
  refine SeqP.go ?_
  refine AW.seq ?_
  refine AW.region ?_
  refine OpsW.q rfl (q_move (v := S _) rfl) ?_
  refine OpsW.q rfl (q_move (v := S _) rfl) ?_
  refine OpsW.q rfl (q_cat rfl rfl (by omega)) ?_
  refine OpsW.q rfl (q_assign (v := S _) rfl) ?_
  refine OpsW.q rfl (q_assign (v := .int _ _) rfl) ?_
  refine OpsW.nil ?_
  refine SeqP.go ?_
  refine AW.ret ?_
  refine RetP.mk2 (H' := _) (v1 := S _) (v2 := .int _ _) rfl rfl rfl  (Hp.le_refl _) ?_
  exact ⟨rfl, hS8.tail⟩
theorem Count_con {b : Nat} {x : BoxS} (hb : H b = some (bxBlk x)) : Con Tryz.prog w0 11 #[.pointer (some ⟨b, 0, none⟩)] H (fun v H' => v = .int .i64 x.n ∧ H' = H) := by
 have hS0 : Sep H [] H := Sep.refl
 refine Con.intro Tryz.func11 rfl rfl ?_
 refine AW.seq ?_
 refine AW.region ?_
 refine OpsW.q rfl (q_assign (v := .int _ _) rfl) ?_
 refine OpsW.nil ?_
 refine SeqP.go ?_
 refine AW.seq ?_
 refine AW.seq ?_
 refine AW.region ?_
 refine OpsW.q rfl (q_move (v := .pointer _) rfl) ?_
 refine OpsW.q rfl (q_eqlP Tryz.underlying25 rfl rfl) ?_
 refine OpsW.nil ?_
 refine SeqP.go ?_
 refine AW.cond rfl (fun h0 => ?_) (fun h0 => ?_)
 ·
  exfalso
  try simp only [z1, z2, z3, z4, z5, z6, z7, z8, z9, z10, z11, z12, z13, z14] at h0
  first | contradiction | (simp at *; done) | simp_all
 try simp only [z1, z2, z3, z4, z5, z6, z7, z8, z9, z10, z11, z12, z13, z14] at h0
 refine AW.skip ?_
 refine SeqP.go ?_
 refine AW.seq ?_
 refine AW.region ?_
 refine OpsW.q rfl (q_move (v := .pointer _) rfl) ?_
 refine OpsW.q rfl (q_nilCheck rfl) ?_
 refine OpsW.q rfl (q_fieldAddr (sz := 0) Tryz.underlying55 rfl (by kernel_rfl) rfl) ?_
 refine OpsW.q rfl (q_load (v := .int _ _) (by kernel_rfl) rfl (hS0.old hb) rfl) ?_
 refine OpsW.q rfl (q_assign (v := .int _ _) rfl) ?_
 refine OpsW.nil ?_
 refine SeqP.go ?_
 refine AW.ret ?_
 refine RetP.mk1 (H' := H) (v1 := .int _ _) rfl rfl  hS0.le ?_
 exact ⟨rfl, rfl⟩
end
end Go.Proofs.YtfpoldogcopmpaaGreatDoor
end
section
namespace Go.Proofs.YtfpoldogcopmpaaGreatDoor
open Go Go.RowKit D
set_option linter.unusedVariables false
set_option linter.unusedSimpArgs false
set_option maxRecDepth 100000
set_option maxHeartbeats 2000000
section
variable {w0 : World} {H : Hp} {H0 : Hp}
theorem TrimRight_con {l : List UInt8} (hl : l.length ≤ 9223372036854775807) : Con Tryz.prog w0 26 #[S l, S [0]] H (fun v H' => v = S (trZ l) ∧ H' = H) := by
 intro w ho
 refine (Tryz.strings_TrimRight_one ⟨l.toArray⟩ 0 (by decide) w (by rw [ByteArray.size]; simpa using hl)).mono ?_
 rintro e w' ⟨rfl, rfl⟩
 exact ⟨_, H, rfl, ho, rfl, rfl⟩
theorem nonce_ok {b : Nat} {x : BoxS} (hb : H b = some (bxBlk x)) (h : BoxOk x) (hn : x.n < 65536) : Con Tryz.prog w0 23 #[.pointer (some ⟨b, 0, none⟩)] H (fun v H' => v = .tuple #[S (nonceB x.iv x.n), .int .i64 0] ∧ H' = H) := by
 have := nonce_con (w0 := w0) hb h.2.2.1 (by omega)
 rw [bxNonce_ok h hn] at this; exact this
theorem nonce_seq {b : Nat} {x : BoxS} (hb : H b = some (bxBlk x)) (h : BoxOk x) (hn : ¬ x.n < 65536) : Con Tryz.prog w0 23 #[.pointer (some ⟨b, 0, none⟩)] H (fun v H' => v = .tuple #[S [], .int .i64 44] ∧ H' = H) := by
 have := nonce_con (w0 := w0) hb h.2.2.1 (by have := h.2.2.2; omega)
 rw [bxNonce_seq (by omega)] at this; exact this
theorem bOpen_s {b : Nat} {x : BoxS} {body : List UInt8} (hS0 : Sep H0 [.blk b (bxBlk x)] H) (hbok : BoxOk x) : Con Tryz.prog w0 9 #[.pointer (some ⟨b, 0, none⟩), S body] H (fun v H' => v = .tuple #[.int .i64 (bxOpen x body).1, S (bxOpen x body).2.1, .int .i64 (bxOpen x body).2.2] ∧ Sep H0 [.blk b (bxBlk (bxNext x body))] H') := by
 obtain ⟨hb1, hb2, hn0, hn1⟩ := hbok
 replace hS0 : Sep H0 [.blk b ⟨[.int .i64 x.suite, S x.key, S x.iv, .int .i64 x.n], 4, 55⟩] H := hS0
 refine Con.intro Tryz.func9 rfl rfl ?_
 refine AW.seq ?_
 refine AW.region ?_
 refine OpsW.q rfl (q_assign (v := .int _ _) rfl) ?_
 refine OpsW.q rfl (q_assign (v := S _) rfl) ?_
 refine OpsW.q rfl (q_assign (v := .int _ _) rfl) ?_
 refine OpsW.nil ?_
 refine SeqP.go ?_
 refine AW.seq ?_
 refine AW.seq ?_
 refine AW.region ?_
 refine OpsW.q rfl (q_move (v := .pointer _) rfl) ?_
 refine OpsW.q rfl (q_eqlP Tryz.underlying25 rfl rfl) ?_
 refine OpsW.nil ?_
 refine SeqP.go ?_
 refine AW.cond rfl (fun h0 => ?_) (fun h0 => ?_)
 ·
  exfalso
  try simp only [z1, z2, z3, z4, z5, z6, z7, z8, z9, z10, z11, z12, z13, z14] at h0
  first | contradiction | (simp at *; done) | simp_all
 try simp only [z1, z2, z3, z4, z5, z6, z7, z8, z9, z10, z11, z12, z13, z14] at h0
 refine AW.skip ?_
 refine SeqP.go ?_
 refine AW.seq ?_
 by_cases hn : x.n < 65536
 ·
  refine AW.region ?_
  refine OpsW.q rfl (q_move (v := .pointer _) rfl) ?_
  refine OpsW.q rfl (o_call rfl Tryz.func23 rfl rfl (nonce_ok (hS0.blk at0) ⟨hb1, hb2, hn0, hn1⟩ hn)) ?_
  refine OpsW.q rfl (q_move (v := .tuple _) rfl) ?_
  refine OpsW.q rfl (q_extract (v := S _) rfl rfl) ?_
  refine OpsW.q rfl (q_extract (v := .int _ _) rfl rfl) ?_
  refine OpsW.q rfl (q_assign (v := S _) rfl) ?_
  refine OpsW.q rfl (q_assign (v := .int _ _) rfl) ?_
  refine OpsW.nil ?_
  refine SeqP.go ?_
  refine AW.seq ?_
  refine AW.seq ?_
  refine AW.region ?_
  refine OpsW.q rfl (q_move (v := .int _ _) rfl) ?_
  refine OpsW.q rfl (q_eql rfl rfl) ?_
  refine OpsW.q rfl (q_move (v := .bool true) rfl) ?_
  refine OpsW.qw rfl rfl (q_move (v := S _) rfl) ?_
  refine OpsW.qw rfl rfl (q_lenS Tryz.underlying9 rfl) ?_
  refine OpsW.qw rfl rfl (q_gtr rfl rfl) ?_
  refine OpsW.q rfl (q_and2 rfl rfl rfl) ?_
  refine OpsW.nil ?_
  refine SeqP.go ?_
  refine AW.cond rfl (fun h1 => ?_) (fun h1 => ?_)
  ·
   try simp only [z1, z2, z3, z4, z5, z6, z7, z8, z9, z10, z11, z12, z13, z14] at h1
   have hlong : 16640 < body.length := by simp_all <;> omega
   refine AW.region ?_
   refine OpsW.q rfl (q_assign (v := .int _ _) rfl) ?_
   refine OpsW.nil ?_
   refine SeqP.go ?_
   refine AW.seq ?_
   refine AW.seq ?_
   refine AW.region ?_
   refine OpsW.q rfl (q_move (v := .int _ _) rfl) ?_
   refine OpsW.q rfl (q_neq rfl rfl) ?_
   refine OpsW.nil ?_
   refine SeqP.go ?_
   refine AW.cond rfl (fun h2 => ?_) (fun h2 => ?_)
   ·
    try simp only [z1, z2, z3, z4, z5, z6, z7, z8, z9, z10, z11, z12, z13, z14] at h2
    obtain ⟨e1, e2⟩ := bo_long hn hlong
    rw [e1, e2]
    refine AW.seq ?_
    refine AW.region ?_
    refine OpsW.q rfl (q_move (v := .int _ _) rfl) ?_
    refine OpsW.q rfl (q_assign (v := .int _ _) rfl) ?_
    refine OpsW.q rfl (q_assign (v := S _) rfl) ?_
    refine OpsW.q rfl (q_assign (v := .int _ _) rfl) ?_
    refine OpsW.nil ?_
    refine SeqP.go ?_
    refine AW.ret ?_
    refine SeqP.ret ?_
    refine RetP.mk3 (H' := H) (v1 := .int _ _) (v2 := S _) (v3 := .int _ _) rfl rfl rfl rfl  (Hp.le_refl _) ?_
    exact ⟨rfl, hS0⟩
   exfalso
   try simp only [z1, z2, z3, z4, z5, z6, z7, z8, z9, z10, z11, z12, z13, z14] at h2
   first | contradiction | (simp at *; done) | simp_all
  try simp only [z1, z2, z3, z4, z5, z6, z7, z8, z9, z10, z11, z12, z13, z14] at h1
  have hshort : ¬ 16640 < body.length := by simp_all <;> omega
  refine AW.skip ?_
  refine SeqP.go ?_
  refine AW.seq ?_
  refine AW.seq ?_
  refine AW.region ?_
  refine OpsW.q rfl (q_move (v := .int _ _) rfl) ?_
  refine OpsW.q rfl (q_neq rfl rfl) ?_
  refine OpsW.nil ?_
  refine SeqP.go ?_
  refine AW.cond rfl (fun h2 => ?_) (fun h2 => ?_)
  ·
   exfalso
   try simp only [z1, z2, z3, z4, z5, z6, z7, z8, z9, z10, z11, z12, z13, z14] at h2
   first | contradiction | (simp at *; done) | simp_all
  try simp only [z1, z2, z3, z4, z5, z6, z7, z8, z9, z10, z11, z12, z13, z14] at h2
  refine AW.skip ?_
  refine SeqP.go ?_
  refine AW.seq ?_
  refine AW.drawK [] 18 rfl (by kernel_rfl) ?_
  refine SeqK.q rfl (q_move (v := .pointer _) rfl) ?_
  refine SeqK.q rfl (q_nilCheck rfl) ?_
  refine SeqK.q rfl (q_fieldAddr (sz := 0) Tryz.underlying55 rfl (by kernel_rfl) rfl) ?_
  refine SeqK.q rfl (q_load (v := .int _ _) (by kernel_rfl) rfl (hS0.blk at0) rfl) ?_
  refine SeqK.q rfl (q_move (v := .pointer _) rfl) ?_
  refine SeqK.q rfl (q_nilCheck rfl) ?_
  refine SeqK.q rfl (q_fieldAddr (sz := 0) Tryz.underlying55 rfl (by kernel_rfl) rfl) ?_
  refine SeqK.q rfl (q_load (v := S _) (by kernel_rfl) rfl (hS0.blk at0) rfl) ?_
  refine SeqK.q rfl (q_move (v := S _) rfl) ?_
  refine SeqK.q rfl (q_move (v := S _) rfl) ?_
  refine SeqK.q rfl (q_lenS Tryz.underlying9 rfl) ?_
  refine SeqK.q rfl (o_call rfl Tryz.func25 rfl rfl (head_con _ _ (by omega))) ?_
  have hhl := headP_length 23 (body.length : Int)
  refine SeqK.q rfl (q_move (v := S _) rfl) ?_
  refine SeqK.q rfl (o_call rfl Tryz.func24 rfl rfl (Open_con (by omega) (by omega))) ?_
  refine SeqK.q rfl (q_move (v := .tuple _) rfl) ?_
  rw [show slOpen x.suite x.key (nonceB x.iv x.n) (headP 23 (body.length : Int)) body = bxRaw x body from rfl]
  have hrl := bxRaw_length (body := body) ⟨hb1, hb2, hn0, hn1⟩ hn
  have htl := trZ_length (bxRaw x body).1
  refine SeqK.q rfl (q_extract (v := S _) rfl rfl) ?_
  refine SeqK.q rfl (q_extract (v := .int _ _) rfl rfl) ?_
  refine SeqK.q rfl (q_assign (v := S _) rfl) ?_
  refine SeqK.done ?_
  refine OpsW.q rfl (q_assign (v := .int _ _) rfl) ?_
  refine OpsW.nil ?_
  refine SeqP.go ?_
  refine AW.seq ?_
  refine AW.seq ?_
  refine AW.region ?_
  refine OpsW.q rfl (q_move (v := .int _ _) rfl) ?_
  refine OpsW.q rfl (q_neq rfl rfl) ?_
  refine OpsW.nil ?_
  refine SeqP.go ?_
  refine AW.cond rfl (fun h3 => ?_) (fun h3 => ?_)
  ·
   try simp only [z1, z2, z3, z4, z5, z6, z7, z8, z9, z10, z11, z12, z13, z14] at h3
   obtain ⟨e1, e2⟩ := bo_bad hn hshort h3
   rw [e1, e2]
   refine AW.seq ?_
   refine AW.region ?_
   refine OpsW.q rfl (q_move (v := .int _ _) rfl) ?_
   refine OpsW.q rfl (q_assign (v := .int _ _) rfl) ?_
   refine OpsW.q rfl (q_assign (v := S _) rfl) ?_
   refine OpsW.q rfl (q_assign (v := .int _ _) rfl) ?_
   refine OpsW.nil ?_
   refine SeqP.go ?_
   refine AW.ret ?_
   refine SeqP.ret ?_
   refine RetP.mk3 (H' := H) (v1 := .int _ _) (v2 := S _) (v3 := .int _ _) rfl rfl rfl rfl  (Hp.le_refl _) ?_
   exact ⟨rfl, hS0⟩
  try simp only [z1, z2, z3, z4, z5, z6, z7, z8, z9, z10, z11, z12, z13, z14] at h3
  have hrz : (bxRaw x body).2 = 0 := by simpa using h3
  refine AW.skip ?_
  refine SeqP.go ?_
  refine AW.seq ?_
  refine AW.region ?_
  refine OpsW.q rfl (q_move (v := S _) rfl) ?_
  refine OpsW.q rfl (o_call rfl Tryz.func26 rfl rfl (TrimRight_con (by omega))) ?_
  refine OpsW.q rfl (q_assign (v := S _) rfl) ?_
  refine OpsW.nil ?_
  refine SeqP.go ?_
  refine AW.seq ?_
  refine AW.region ?_
  refine OpsW.q rfl (q_move (v := S _) rfl) ?_
  refine OpsW.q rfl (q_lenS Tryz.underlying9 rfl) ?_
  refine OpsW.q rfl (q_subI rfl rfl (by omega)) ?_
  rw [show ((trZ (bxRaw x body).1).length : Int) - 1 = trN (bxRaw x body).1 from rfl]
  have htn : trN (bxRaw x body).1 = ((trZ (bxRaw x body).1).length : Int) - 1 := rfl
  refine OpsW.q rfl (q_assign (v := .int _ _) rfl) ?_
  refine OpsW.nil ?_
  refine SeqP.go ?_
  refine AW.seq ?_
  refine AW.block ?_
  refine AW.seq ?_
  refine AW.region ?_
  refine OpsW.q rfl (q_move (v := .int _ _) rfl) ?_
  refine OpsW.q rfl (q_lss rfl rfl) ?_
  refine OpsW.qb rfl (q_move (v := .bool _) rfl) ?_
  intro b56 eb56
  refine OpsW.g rfl rfl rfl (fun hB => by simp only [Bool.and_eq_true, beq_iff_eq] at hB; obtain rfl := hB; exact (q_move (v := S _) rfl)) ?_
  refine OpsW.g rfl rfl rfl (fun hB => by simp only [Bool.and_eq_true, beq_iff_eq] at hB; obtain rfl := hB; exact (q_move (v := .int _ _) rfl)) ?_
  refine OpsW.g rfl rfl rfl (fun hB => by simp only [Bool.and_eq_true, beq_iff_eq] at hB; obtain rfl := hB; (try simp only [Bool.true_eq, Bool.false_eq, decide_eq_true_eq, Bool.and_eq_true, Bool.or_eq_true, Bool.or_eq_false_iff, Bool.not_eq_true', decide_eq_false_iff_not, Int.not_lt, Int.not_le] at eb56); exact (q_indexS Tryz.underlying9 rfl rfl (by omega) (by omega))) ?_
  refine OpsW.g rfl rfl rfl (fun hB => by simp only [Bool.and_eq_true, beq_iff_eq] at hB; obtain rfl := hB; exact (q_convI64 rfl Tryz.underlying3 rfl (by exact rng_bt _ _))) ?_
  refine OpsW.g rfl rfl rfl (fun hB => by simp only [Bool.and_eq_true, beq_iff_eq] at hB; obtain rfl := hB; exact (o_call rfl Tryz.func27 rfl rfl (isKind_con _))) ?_
  refine OpsW.g rfl rfl rfl (fun hB => by simp only [Bool.and_eq_true, beq_iff_eq] at hB; obtain rfl := hB; exact (q_not rfl)) ?_
  refine OpsW.q rfl (q_or2 rfl rfl rfl) ?_
  refine OpsW.q rfl (q_assign (v := .bool _) rfl) ?_
  refine OpsW.nil ?_
  refine SeqP.go ?_
  refine AW.cond rfl (fun h4 => ?_) (fun h4 => ?_)
  ·
   try simp only [eb56, z1, z2, z3, z4, z5, z6, z7, z8, z9, z10, z11, z12, z13, z14] at h4
   obtain ⟨e1, e2⟩ := bo_none hn hshort hrz (by simp_all)
   rw [e1, e2]
   refine AW.seq ?_
   refine AW.region ?_
   refine OpsW.q rfl (q_assign (v := .int _ _) rfl) ?_
   refine OpsW.q rfl (q_assign (v := S _) rfl) ?_
   refine OpsW.q rfl (q_assign (v := .int _ _) rfl) ?_
   refine OpsW.nil ?_
   refine SeqP.go ?_
   refine AW.ret ?_
   refine BlockP.ret ?_
   refine SeqP.ret ?_
   refine RetP.mk3 (H' := H) (v1 := .int _ _) (v2 := S _) (v3 := .int _ _) rfl rfl rfl rfl  (Hp.le_refl _) ?_
   exact ⟨rfl, hS0⟩
  try simp only [eb56, z1, z2, z3, z4, z5, z6, z7, z8, z9, z10, z11, z12, z13, z14] at h4
  have hgd : ¬ (trN (bxRaw x body).1 < 0 ∨ isK (bt (trZ (bxRaw x body).1) (trN (bxRaw x body).1).toNat) = false) := by simp_all
  refine AW.seq ?_
  refine AW.region ?_
  refine OpsW.q rfl (q_move (v := .int _ _) rfl) ?_
  refine OpsW.q rfl (q_gtr rfl rfl) ?_
  refine OpsW.q rfl (q_assign (v := .bool _) rfl) ?_
  refine OpsW.nil ?_
  refine SeqP.go ?_
  refine AW.cond rfl (fun h5 => ?_) (fun h5 => ?_)
  ·
   try simp only [eb56, z1, z2, z3, z4, z5, z6, z7, z8, z9, z10, z11, z12, z13, z14] at h5
   obtain ⟨e1, e2⟩ := bo_big hn hshort hrz hgd (by omega)
   rw [e1, e2]
   refine AW.seq ?_
   refine AW.region ?_
   refine OpsW.q rfl (q_assign (v := .int _ _) rfl) ?_
   refine OpsW.q rfl (q_assign (v := S _) rfl) ?_
   refine OpsW.q rfl (q_assign (v := .int _ _) rfl) ?_
   refine OpsW.nil ?_
   refine SeqP.go ?_
   refine AW.ret ?_
   refine BlockP.ret ?_
   refine SeqP.ret ?_
   refine RetP.mk3 (H' := H) (v1 := .int _ _) (v2 := S _) (v3 := .int _ _) rfl rfl rfl rfl  (Hp.le_refl _) ?_
   exact ⟨rfl, hS0⟩
  try simp only [eb56, z1, z2, z3, z4, z5, z6, z7, z8, z9, z10, z11, z12, z13, z14] at h5
  obtain ⟨e1, e2⟩ := bo_ok hn hshort hrz hgd (by omega)
  rw [e1, e2]
  refine AW.skip ?_
  refine BlockP.go ?_
  refine SeqP.go ?_
  refine AW.seq ?_
  refine AW.region ?_
  refine OpsW.q rfl (q_move (v := .pointer _) rfl) ?_
  refine OpsW.q rfl (q_nilCheck rfl) ?_
  refine OpsW.q rfl (q_fieldAddr (sz := 0) Tryz.underlying55 rfl (by kernel_rfl) rfl) ?_
  refine OpsW.q rfl (q_load (v := .int _ _) (by kernel_rfl) rfl (hS0.blk at0) rfl) ?_
  refine OpsW.q rfl (q_addI rfl rfl (by omega)) ?_
  refine OpsW.q rfl (q_nilCheck rfl) ?_
  refine OpsW.q rfl (q_fieldAddr (sz := 0) Tryz.underlying55 rfl (by kernel_rfl) rfl) ?_
  refine OpsW.ms (s_storeC (v := .int _ _) hS0 at0 (by kernel_rfl) rfl rfl rfl (by simp; done)) ?_
  rintro _ H1 ⟨rfl, hS1⟩
  clear hS0
  refine OpsW.nil ?_
  refine SeqP.go ?_
  refine AW.seq ?_
  refine AW.drawK [] 8 rfl (by kernel_rfl) ?_
  refine SeqK.q rfl (q_move (v := S _) rfl) ?_
  refine SeqK.q rfl (q_move (v := .int _ _) rfl) ?_
  refine SeqK.q rfl (q_indexS Tryz.underlying9 rfl rfl (by omega) (by omega)) ?_
  refine SeqK.q rfl (q_convI64 rfl Tryz.underlying3 rfl (by exact rng_bt _ _)) ?_
  refine SeqK.q rfl (q_move (v := S _) rfl) ?_
  refine SeqK.q rfl (q_move (v := .int _ _) rfl) ?_
  refine SeqK.q rfl (q_sliceS_hi Tryz.underlying9 rfl rfl (by omega) (by omega)) ?_
  refine SeqK.q rfl (q_assign (v := .int _ _) rfl) ?_
  refine SeqK.done ?_
  refine OpsW.q rfl (q_assign (v := S _) rfl) ?_
  refine OpsW.q rfl (q_assign (v := .int _ _) rfl) ?_
  refine OpsW.nil ?_
  refine SeqP.go ?_
  refine AW.ret ?_
  refine RetP.mk3 (H' := H1) (v1 := .int _ _) (v2 := S _) (v3 := .int _ _) rfl rfl rfl rfl  (Hp.le_refl _) ?_
  exact ⟨rfl, hS1⟩
 ·
  refine AW.region ?_
  refine OpsW.q rfl (q_move (v := .pointer _) rfl) ?_
  refine OpsW.q rfl (o_call rfl Tryz.func23 rfl rfl (nonce_seq (hS0.blk at0) ⟨hb1, hb2, hn0, hn1⟩ hn)) ?_
  refine OpsW.q rfl (q_move (v := .tuple _) rfl) ?_
  refine OpsW.q rfl (q_extract (v := S _) rfl rfl) ?_
  refine OpsW.q rfl (q_extract (v := .int _ _) rfl rfl) ?_
  refine OpsW.q rfl (q_assign (v := S _) rfl) ?_
  refine OpsW.q rfl (q_assign (v := .int _ _) rfl) ?_
  refine OpsW.nil ?_
  refine SeqP.go ?_
  refine AW.seq ?_
  refine AW.seq ?_
  refine AW.region ?_
  refine OpsW.q rfl (q_move (v := .int _ _) rfl) ?_
  refine OpsW.q rfl (q_eql rfl rfl) ?_
  refine OpsW.q rfl (q_move (v := .bool false) rfl) ?_
  refine OpsW.p rfl rfl ?_
  refine OpsW.p rfl rfl ?_
  refine OpsW.p rfl rfl ?_
  refine OpsW.q rfl (q_and2 (B := false) rfl rfl rfl) ?_
  refine OpsW.nil ?_
  refine SeqP.go ?_
  refine AW.cond rfl (fun h1 => ?_) (fun h1 => ?_)
  ·
   exfalso
   try simp only [z1, z2, z3, z4, z5, z6, z7, z8, z9, z10, z11, z12, z13, z14] at h1
   first | contradiction | (simp at *; done) | simp_all
  try simp only [z1, z2, z3, z4, z5, z6, z7, z8, z9, z10, z11, z12, z13, z14] at h1
  refine AW.skip ?_
  refine SeqP.go ?_
  refine AW.seq ?_
  refine AW.seq ?_
  refine AW.region ?_
  refine OpsW.q rfl (q_move (v := .int _ _) rfl) ?_
  refine OpsW.q rfl (q_neq rfl rfl) ?_
  refine OpsW.nil ?_
  refine SeqP.go ?_
  refine AW.cond rfl (fun h2 => ?_) (fun h2 => ?_)
  ·
   try simp only [z1, z2, z3, z4, z5, z6, z7, z8, z9, z10, z11, z12, z13, z14] at h2
   obtain ⟨e1, e2⟩ := bo_seq (body := body) hn
   rw [e1, e2]
   refine AW.seq ?_
   refine AW.region ?_
   refine OpsW.q rfl (q_move (v := .int _ _) rfl) ?_
   refine OpsW.q rfl (q_assign (v := .int _ _) rfl) ?_
   refine OpsW.q rfl (q_assign (v := S _) rfl) ?_
   refine OpsW.q rfl (q_assign (v := .int _ _) rfl) ?_
   refine OpsW.nil ?_
   refine SeqP.go ?_
   refine AW.ret ?_
   refine SeqP.ret ?_
   refine RetP.mk3 (H' := H) (v1 := .int _ _) (v2 := S _) (v3 := .int _ _) rfl rfl rfl rfl  (Hp.le_refl _) ?_
   exact ⟨rfl, hS0⟩
  exfalso
  try simp only [z1, z2, z3, z4, z5, z6, z7, z8, z9, z10, z11, z12, z13, z14] at h2
  first | contradiction | (simp at *; done) | simp_all
end
end Go.Proofs.YtfpoldogcopmpaaGreatDoor
end
section
namespace Go.Proofs.YtfpoldogcopmpaaGreatDoor
open Go Go.RowKit D
set_option linter.unusedVariables false
set_option linter.unusedSimpArgs false
set_option maxRecDepth 100000
set_option maxHeartbeats 2000000
section
variable {w0 : World} {H : Hp} {H0 : Hp}
theorem NewBox_ok {suite : Int} {key iv : List UInt8} (h : boxE suite key iv = 0) : Con Tryz.prog w0 6 #[.int .i64 suite, S key, S iv] H (fun v H' => ∃ b, v = .tuple #[.pointer (some ⟨b, 0, none⟩), .int .i64 0] ∧ Sep H [.blk b (bxBlk ⟨suite, key, iv, 0⟩)] H') :=
 (NewBox_s suite key iv).mono fun _ _ h1 => h1.elim (fun h2 => absurd h h2.1) (fun h2 => h2.2)
theorem NewBox_bad {suite : Int} {key iv : List UInt8} (h : ¬ boxE suite key iv = 0) : Con Tryz.prog w0 6 #[.int .i64 suite, S key, S iv] H (fun v H' => v = .tuple #[.pointer none, .int .i64 (boxE suite key iv)] ∧ H' = H) :=
 (NewBox_s suite key iv).mono fun _ _ h1 => h1.elim (fun h2 => h2.2) (fun h2 => absurd h2.1 h)
end
end Go.Proofs.YtfpoldogcopmpaaGreatDoor
end
