/-
 The proof's texts, joined, without what the statements do not reach: part 3 of 9. No condition.
-/
import Derived.Test.YtfpoldogcopmpaaGreatDoorCards
import Derived.Test.YtfpoldogcopmpaaGreatDoorTie
import Derived.WalkKit
import Derived.KernelRfl
import Derived.Lib.ConvBytes
import Derived.WalkSpells
import Derived.WalkLawsBesides
import Derived.ProofKit
import Derived.ChangeMaps5
import Derived.ChangeSlices
import Derived.Deep.Strs
import Derived.Handed
import Derived.LaidLaws
import Derived.LaidMore
import Derived.Lay
import Derived.SevenTiedAt
import Derived.Stop.Joined
import Derived.DataElems
import Derived.OpenShut
import Derived.Test.YtfpoldogcopmpaaGreatDoorProg
import Derived.Lib.TrimByte
import Derived.Shelf.Bits.Mul64
import Derived.Shelf.Small.Strs
import Derived.Shelf.Small.Utf8
import Derived.Shelf.Strings.AsciiSet
import Derived.Shelf.Strings.Builder1
import Derived.Shelf.Strings.Builder2
import Derived.Shelf.Strings.Builder2Cap
import Derived.Shelf.Strings.BuilderF
import Derived.Shelf.Strings.Prefix
import Derived.Shelf.Strings.Repeat
import Derived.Shelf.Strings.Runes
import Derived.Shelf.Strings.Search1
import Derived.Shelf.Strings.Trim
import Derived.Shelf.Unicode.Decode
import Derived.Shelf.Unicode.DecodeAny
import Derived.Shelf.Unicode.DecodeLast
import Derived.Shelf.Unicode.DecodeSlow
import Derived.Test.YtfpoldogcopmpaaGreatDoorKb
section
namespace Go.Proofs.YtfpoldogcopmpaaGreatDoor
open Go Go.RowKit D
set_option linter.unusedVariables false
set_option linter.unusedSimpArgs false
set_option maxRecDepth 100000
set_option maxHeartbeats 2000000
section
variable {w0 : World} {H : Hp} {H0 : Hp}
theorem gof_con {s : List UInt8} (hs : 16 ≤ s.length) : Con Tryz.prog w0 97 #[S s] H (fun v H' => v = .agg (nums .u64 (pair (beK s 16))).toArray ∧ H' = H) := by
 have hS0 : Sep H [] H := Sep.refl
 refine Con.intro Tryz.func97 rfl rfl ?_
 refine AW.seq ?_
 refine AW.region ?_
 refine OpsW.m rfl (s_allocN (k := .u64) (m := 2) hS0 (by kernel_rfl)) ?_
 rintro _ H1 ⟨b2, rfl, hS1⟩
 clear hS0
 refine OpsW.nil ?_
 refine SeqP.go ?_
 refine AW.seq ?_
 refine AW.region ?_
 refine OpsW.m rfl (s_allocN (k := .u64) (m := 2) hS1 (by kernel_rfl)) ?_
 rintro _ H2 ⟨b3, rfl, hS2⟩
 clear hS1
 refine OpsW.nil ?_
 refine SeqP.go ?_
 refine AW.seq ?_
 refine AW.seq ?_
 refine AW.region ?_
 refine OpsW.q rfl (q_move (v := .int _ _) rfl) ?_
 refine OpsW.nil ?_
 refine SeqP.go ?_
 refine AW.block ?_
 refine AW.loop (fun m_ e_ H_ => ∃ (i : Nat) (e0 : Env), m_ = 16 - i ∧ (i ≤ 16) ∧ e_ = upds e0 [(0, S s), (2, .pointer (some ⟨b2, 0, none⟩)), (3, .pointer (some ⟨b3, 0, none⟩)), (5, .int .i64 (i : Int))] ∧ Sep H [.blk b3 ⟨nums .u64 ((ofK s i)), 2, 110⟩, .blk b2 ⟨nums .u64 ([0, 0]), 2, 110⟩] H_) _ ⟨0, _, rfl, (by omega), Slots.eq ⟨(by rfl), (by rfl), (by rfl), (by rfl),  trivial⟩, (by rw [ofK_zero]; exact hS2)⟩ ?_
 rintro m_ _ Hl0 ⟨i, e0, rfl, hf, rfl, hSl0⟩
 try clear hS2
 have hl := ofK_length s i
 refine AW.seq ?_
 refine AW.region ?_
 refine OpsW.q rfl (q_lss rfl rfl) ?_
 refine OpsW.nil ?_
 refine SeqP.go ?_
 refine AW.seq ?_
 refine AW.cond2 rfl (fun h0 => ?_) (fun h0 => ?_)
 ·
  try simp only [z1, z2, z3, z4, z5, z6, z7, z8, z9, z10, z11, z12, z13, z14] at h0
  refine AW.exit ?_
  refine SeqP.exit ?_
  refine LoopP.exit ?_
  obtain rfl : i = 16 := by omega
  refine BlockP.here ?_
  refine SeqP.go ?_
  refine AW.seq ?_
  refine AW.region ?_
  refine OpsW.q rfl (q_loadAN (n := 2) (k := .u64) (by kernel_rfl) rfl (hSl0.blk at0) (by with_reducible assumption)) ?_
  refine OpsW.ms (s_storeA (n := 2) (k := .u64) hSl0 at1 (by kernel_rfl) rfl rfl (by with_reducible assumption) (by rfl)) ?_
  rintro _ H3 ⟨rfl, hS3⟩
  clear hSl0
  refine OpsW.nil ?_
  refine SeqP.go ?_
  refine AW.ret ?_
  refine RetP.mkc (m := 2) (H' := H) rfl rfl (hS3.blk at1) (by simp only [nums_length, List.length_set, List.length_replicate, List.length_take, List.length_drop, List.length_append, List.length_cons, List.length_nil, ofB_length, toB_length]; omega) (by kernel_rfl) hS3.le ?_
  exact ⟨by rw [ofK_fin], rfl⟩
 try simp only [z1, z2, z3, z4, z5, z6, z7, z8, z9, z10, z11, z12, z13, z14] at h0
 refine AW.skip ?_
 refine SeqP.go ?_
 refine AW.seq ?_
 refine AW.block ?_
 refine AW.seq ?_
 refine AW.region ?_
 refine OpsW.q rfl (q_move (v := .int _ _) rfl) ?_
 refine OpsW.q rfl (q_assign (v := .int _ _) rfl) ?_
 refine OpsW.nil ?_
 refine SeqP.go ?_
 refine AW.drawK [] 12 rfl (by kernel_rfl) ?_
 refine SeqK.q rfl (q_move (v := .int _ _) rfl) ?_
 refine SeqK.q rfl (q_quoI rfl rfl (by omega)) ?_
 refine SeqK.q rfl (q_move (v := .int _ _) rfl) ?_
 refine SeqK.q rfl (q_quoI rfl rfl (by omega)) ?_
 refine SeqK.q rfl (q_indexAddrA0 Tryz.underlying110 (by kernel_rfl) rfl rfl (by omega) (by omega)) ?_
 refine SeqK.q rfl (q_loadN (by kernel_rfl) rfl (hSl0.blk at0) (by omega)) ?_
 refine SeqK.q rfl (q_shlL 8 rfl rfl (by decide) rfl) ?_
 refine SeqK.q rfl (q_move (v := S _) rfl) ?_
 refine SeqK.q rfl (q_move (v := .int _ _) rfl) ?_
 refine SeqK.q rfl (q_indexS Tryz.underlying9 rfl rfl (by omega) (by omega)) ?_
 refine SeqK.q rfl (q_convInt rfl Tryz.underlying108 rfl) ?_
 refine SeqK.q rfl (q_or rfl rfl) ?_
 refine SeqK.done ?_
 refine OpsW.q rfl (q_indexAddrA0 Tryz.underlying110 (by kernel_rfl) rfl rfl (by omega) (by omega)) ?_
 refine OpsW.ms (s_storeN hSl0 at0 (by kernel_rfl) rfl rfl (by omega)) ?_
 rintro _ H4 ⟨rfl, hS4⟩
 clear hSl0
 refine OpsW.nil ?_
 refine BlockP.go ?_
 refine SeqP.go ?_
 refine AW.region ?_
 refine OpsW.q rfl (q_addI rfl rfl (by omega)) ?_
 refine OpsW.q rfl (q_move (v := .int _ _) rfl) ?_
 refine OpsW.nil ?_
 exact LoopP.go _ (by omega) ⟨i + 1, _, rfl, (by omega), Slots.eq ⟨(by rfl), (by rfl), (by rfl), (by rfl),  trivial⟩, (by have hs := hS4; rw [show ((i : Int) / 8).toNat = i / 8 from by omega, Int.toNat_natCast, of_step s (by omega)] at hs; exact hs)⟩
theorem gwith_con {X Y : Nat} (hX : X < 2 ^ 128) (hY : Y < 2 ^ 128) : Con Tryz.prog w0 101 #[.agg (nums .u64 (pair X)).toArray, .agg (nums .u64 (pair Y)).toArray] H (fun v H' => v = .agg (nums .u64 (pair (X ^^^ Y))).toArray ∧ H' = H) := by
 have hS0 : Sep H [] H := Sep.refl
 have hlX := pair_length X
 have hlY := pair_length Y
 refine Con.intro Tryz.func101 rfl rfl ?_
 refine AW.seq ?_
 refine AW.region ?_
 refine OpsW.m rfl (s_boxN (k := .u64) hS0 rfl) ?_
 rintro _ H1 ⟨b2, rfl, hS1⟩
 clear hS0
 refine OpsW.m rfl (s_boxN (k := .u64) hS1 rfl) ?_
 rintro _ H2 ⟨b3, rfl, hS2⟩
 clear hS1
 refine OpsW.m rfl (s_allocN (k := .u64) (m := 2) hS2 (by kernel_rfl)) ?_
 rintro _ H3 ⟨b4, rfl, hS3⟩
 clear hS2
 refine OpsW.nil ?_
 refine SeqP.go ?_
 refine AW.seq ?_
 refine AW.region ?_
 refine OpsW.q rfl (q_indexAddrA0 Tryz.underlying110 (by kernel_rfl) rfl rfl (by omega) (by omega)) ?_
 refine OpsW.q rfl (q_loadN (by kernel_rfl) rfl (hS3.blk at2) (by omega)) ?_
 refine OpsW.q rfl (q_indexAddrA0 Tryz.underlying110 (by kernel_rfl) rfl rfl (by omega) (by omega)) ?_
 refine OpsW.q rfl (q_loadN (by kernel_rfl) rfl (hS3.blk at1) (by omega)) ?_
 refine OpsW.q rfl (q_xor rfl rfl) ?_
 refine OpsW.q rfl (q_indexAddrA0 Tryz.underlying110 (by kernel_rfl) rfl rfl (by omega) (by omega)) ?_
 refine OpsW.q rfl (q_loadN (by kernel_rfl) rfl (hS3.blk at2) (by omega)) ?_
 refine OpsW.q rfl (q_indexAddrA0 Tryz.underlying110 (by kernel_rfl) rfl rfl (by omega) (by omega)) ?_
 refine OpsW.q rfl (q_loadN (by kernel_rfl) rfl (hS3.blk at1) (by omega)) ?_
 refine OpsW.q rfl (q_xor rfl rfl) ?_
 refine OpsW.q rfl (q_buildN (k := .u64) [_, _] rfl (by kernel_rfl)) ?_
 refine OpsW.ms (s_storeA (n := 2) (k := .u64) hS3 at0 (by kernel_rfl) rfl rfl (by simp; done) (by rfl)) ?_
 rintro _ H4 ⟨rfl, hS4⟩
 clear hS3
 refine OpsW.nil ?_
 refine SeqP.go ?_
 refine AW.ret ?_
 refine RetP.mkc (m := 2) (H' := H) rfl rfl (hS4.blk at0) (by rfl) (by kernel_rfl) hS4.le ?_
 exact ⟨by rw [← pair_with hX hY]; rfl, rfl⟩
theorem gString_con {X : Nat} (hX : X < 2 ^ 128) : Con Tryz.prog w0 100 #[.agg (nums .u64 (pair X)).toArray] H (fun v H' => v = S (byL X 16) ∧ H' = H) := by
 have hS0 : Sep H [] H := Sep.refl
 have hlX := pair_length X
 refine Con.intro Tryz.func100 rfl rfl ?_
 refine AW.seq ?_
 refine AW.region ?_
 refine OpsW.m rfl (s_boxN (k := .u64) hS0 rfl) ?_
 rintro _ H1 ⟨b1, rfl, hS1⟩
 clear hS0
 refine OpsW.q rfl (q_assign (v := S _) rfl) ?_
 refine OpsW.nil ?_
 refine SeqP.go ?_
 refine AW.seq ?_
 refine AW.region ?_
 refine OpsW.m rfl (s_allocB 16 hS1 (by kernel_rfl)) ?_
 rintro _ H2 ⟨b3, rfl, hS2⟩
 clear hS1
 refine OpsW.nil ?_
 refine SeqP.go ?_
 refine AW.seq ?_
 refine AW.seq ?_
 refine AW.region ?_
 refine OpsW.q rfl (q_move (v := .int _ _) rfl) ?_
 refine OpsW.nil ?_
 refine SeqP.go ?_
 refine AW.block ?_
 refine AW.loop (fun m_ e_ H_ => ∃ (i : Nat) (e0 : Env), m_ = 16 - i ∧ (i ≤ 16) ∧ e_ = upds e0 [(1, .pointer (some ⟨b1, 0, none⟩)), (3, .pointer (some ⟨b3, 0, none⟩)), (5, .int .i64 (i : Int))] ∧ Sep H [.blk b3 ⟨nums .u8 ((ofB (strK X i))), 16, 144⟩, .blk b1 ⟨nums .u64 ((pair X)), (pair X).length, 110⟩] H_) _ ⟨0, _, rfl, (by omega), Slots.eq ⟨(by rfl), (by rfl), (by rfl),  trivial⟩, (by rw [strK_zero]; unfold zs; exact hS2)⟩ ?_
 rintro m_ _ Hl0 ⟨i, e0, rfl, hf, rfl, hSl0⟩
 try clear hS2
 have hl := strK_length X hf
 refine AW.seq ?_
 refine AW.region ?_
 refine OpsW.q rfl (q_lss rfl rfl) ?_
 refine OpsW.nil ?_
 refine SeqP.go ?_
 refine AW.seq ?_
 refine AW.cond2 rfl (fun h0 => ?_) (fun h0 => ?_)
 ·
  try simp only [z1, z2, z3, z4, z5, z6, z7, z8, z9, z10, z11, z12, z13, z14] at h0
  refine AW.exit ?_
  refine SeqP.exit ?_
  refine LoopP.exit ?_
  obtain rfl : i = 16 := by omega
  refine BlockP.here ?_
  refine SeqP.go ?_
  refine AW.seq ?_
  refine AW.region ?_
  refine OpsW.q rfl (q_sliceArr_all (sz := 1) Tryz.underlying144 (by kernel_rfl) rfl ) ?_
  refine OpsW.q rfl (q_stringB0 Tryz.underlying35 Tryz.underlying5 Tryz.underlying9 rfl (hSl0.blk at0) (by omega)) ?_
  refine OpsW.q rfl (q_assign (v := S _) rfl) ?_
  refine OpsW.nil ?_
  refine SeqP.go ?_
  refine AW.ret ?_
  refine RetP.mk1 (H' := H) (v1 := S _) rfl rfl  hSl0.le ?_
  have hl9 : (byL X 16).take 16 = byL X 16 := List.take_of_length_le (by rw [byL_length]; exact Nat.le_refl _)
  rw [strK_fin]
  exact ⟨by rw [hl9], rfl⟩
 try simp only [z1, z2, z3, z4, z5, z6, z7, z8, z9, z10, z11, z12, z13, z14] at h0
 refine AW.skip ?_
 refine SeqP.go ?_
 refine AW.seq ?_
 refine AW.block ?_
 refine AW.seq ?_
 refine AW.region ?_
 refine OpsW.q rfl (q_move (v := .int _ _) rfl) ?_
 refine OpsW.q rfl (q_assign (v := .int _ _) rfl) ?_
 refine OpsW.nil ?_
 refine SeqP.go ?_
 refine AW.region ?_
 refine OpsW.q rfl (q_move (v := .int _ _) rfl) ?_
 refine OpsW.q rfl (q_move (v := .int _ _) rfl) ?_
 refine OpsW.q rfl (q_quoI rfl rfl (by omega)) ?_
 refine OpsW.q rfl (q_indexAddrA0 Tryz.underlying110 (by kernel_rfl) rfl rfl (by omega) (by omega)) ?_
 refine OpsW.q rfl (q_loadN (by kernel_rfl) rfl (hSl0.blk at1) (by omega)) ?_
 refine OpsW.q rfl (q_move (v := .int _ _) rfl) ?_
 refine OpsW.q rfl (q_remI rfl rfl (by omega)) ?_
 refine OpsW.q rfl (q_mulI rfl rfl (by omega)) ?_
 refine OpsW.q rfl (q_subI rfl rfl (by omega)) ?_
 refine OpsW.q rfl (q_shr rfl rfl (by omega)) ?_
 refine OpsW.q rfl (q_convInt rfl Tryz.underlying5 rfl) ?_
 rw [show ((i : Int) / 8).toNat = i / 8 from by omega, str_byte hX (by omega)]
 refine OpsW.q rfl (q_indexAddrA0 Tryz.underlying144 (by kernel_rfl) rfl rfl (by omega) (by omega)) ?_
 refine OpsW.ms (s_storeB hSl0 at0 (by kernel_rfl) rfl rfl (by omega)) ?_
 rintro _ H3 ⟨rfl, hS3⟩
 clear hSl0
 refine OpsW.nil ?_
 refine BlockP.go ?_
 refine SeqP.go ?_
 refine AW.region ?_
 refine OpsW.q rfl (q_addI rfl rfl (by omega)) ?_
 refine OpsW.q rfl (q_move (v := .int _ _) rfl) ?_
 refine OpsW.nil ?_
 exact LoopP.go _ (by omega) ⟨i + 1, _, rfl, (by omega), Slots.eq ⟨(by rfl), (by rfl), (by rfl),  trivial⟩, (by have hs := hS3; rw [Int.toNat_natCast, str_step X (by omega)] at hs; exact hs)⟩
theorem gtimes_con {B C : Nat} (hB : B < 2 ^ 128) (hC : C < 2 ^ 128) : Con Tryz.prog w0 118 #[.agg (nums .u64 (pair B)).toArray, .agg (nums .u64 (pair C)).toArray] H (fun v H' => v = .agg (nums .u64 (pair (gm B C))).toArray ∧ H' = H) := by
 have hS0 : Sep H [] H := Sep.refl
 have hlB := pair_length B
 have hlC := pair_length C
 refine Con.intro Tryz.func118 rfl rfl ?_
 refine AW.seq ?_
 refine AW.region ?_
 refine OpsW.m rfl (s_boxN (k := .u64) hS0 rfl) ?_
 rintro _ H1 ⟨b2, rfl, hS1⟩
 clear hS0
 refine OpsW.m rfl (s_boxN (k := .u64) hS1 rfl) ?_
 rintro _ H2 ⟨b3, rfl, hS2⟩
 clear hS1
 refine OpsW.m rfl (s_allocN (k := .u64) (m := 2) hS2 (by kernel_rfl)) ?_
 rintro _ H3 ⟨b4, rfl, hS3⟩
 clear hS2
 refine OpsW.nil ?_
 refine SeqP.go ?_
 refine AW.seq ?_
 refine AW.region ?_
 refine OpsW.m rfl (s_allocN (k := .u64) (m := 2) hS3 (by kernel_rfl)) ?_
 rintro _ H4 ⟨b5, rfl, hS4⟩
 clear hS3
 refine OpsW.nil ?_
 refine SeqP.go ?_
 refine AW.seq ?_
 refine AW.seq ?_
 refine AW.region ?_
 refine OpsW.q rfl (q_move (v := .int _ _) rfl) ?_
 refine OpsW.nil ?_
 refine SeqP.go ?_
 refine AW.block ?_
 refine AW.loop (fun m_ e_ H_ => ∃ (n : Nat) (e0 : Env), m_ = 128 - n ∧ (n ≤ 128) ∧ e_ = upds e0 [(2, .pointer (some ⟨b2, 0, none⟩)), (3, .pointer (some ⟨b3, 0, none⟩)), (4, .pointer (some ⟨b4, 0, none⟩)), (5, .pointer (some ⟨b5, 0, none⟩)), (8, .int .i64 (n : Int))] ∧ Sep H [.blk b5 ⟨nums .u64 ((pair (gmK B C n))), 2, 110⟩, .blk b4 ⟨nums .u64 ([0, 0]), 2, 110⟩, .blk b3 ⟨nums .u64 ((pair C)), (pair C).length, 110⟩, .blk b2 ⟨nums .u64 ((pair (shI B n))), (pair B).length, 110⟩] H_) _ ⟨0, _, rfl, (by omega), Slots.eq ⟨(by rfl), (by rfl), (by rfl), (by rfl), (by rfl),  trivial⟩, (by rw [gmK_zero', shI_zero', pair_zero]; exact hS4)⟩ ?_
 rintro m_ _ Hl0 ⟨n, e0, rfl, hf, rfl, hSl0⟩
 try clear hS4
 have hg := gmK_lt hB C n
 have hs := shI_lt hB n
 have hl1 := pair_length (gmK B C n)
 have hl2 := pair_length (shI B n)
 refine AW.seq ?_
 refine AW.region ?_
 refine OpsW.q rfl (q_lss rfl rfl) ?_
 refine OpsW.nil ?_
 refine SeqP.go ?_
 refine AW.seq ?_
 refine AW.cond2 rfl (fun h0 => ?_) (fun h0 => ?_)
 ·
  try simp only [z1, z2, z3, z4, z5, z6, z7, z8, z9, z10, z11, z12, z13, z14] at h0
  refine AW.exit ?_
  refine SeqP.exit ?_
  refine LoopP.exit ?_
  obtain rfl : n = 128 := by omega
  refine BlockP.here ?_
  refine SeqP.go ?_
  refine AW.seq ?_
  refine AW.region ?_
  refine OpsW.q rfl (q_loadAN (n := 2) (k := .u64) (by kernel_rfl) rfl (hSl0.blk at0) (by with_reducible assumption)) ?_
  refine OpsW.ms (s_storeA (n := 2) (k := .u64) hSl0 at1 (by kernel_rfl) rfl rfl (by with_reducible assumption) (by rfl)) ?_
  rintro _ H5 ⟨rfl, hS5⟩
  clear hSl0
  refine OpsW.nil ?_
  refine SeqP.go ?_
  refine AW.ret ?_
  refine RetP.mkc (m := 2) (H' := H) rfl rfl (hS5.blk at1) (by simp only [nums_length, List.length_set, List.length_replicate, List.length_take, List.length_drop, List.length_append, List.length_cons, List.length_nil, ofB_length, toB_length]; omega) (by kernel_rfl) hS5.le ?_
  exact ⟨by rw [gm_def], rfl⟩
 try simp only [z1, z2, z3, z4, z5, z6, z7, z8, z9, z10, z11, z12, z13, z14] at h0
 refine AW.skip ?_
 refine SeqP.go ?_
 refine AW.seq ?_
 refine AW.block ?_
 refine AW.seq ?_
 refine AW.region ?_
 refine OpsW.q rfl (q_move (v := .int _ _) rfl) ?_
 refine OpsW.q rfl (q_assign (v := .int _ _) rfl) ?_
 refine OpsW.nil ?_
 refine SeqP.go ?_
 refine AW.seq ?_
 refine AW.seq ?_
 refine AW.region ?_
 refine OpsW.q rfl (q_move (v := .int _ _) rfl) ?_
 refine OpsW.q rfl (q_quoI rfl rfl (by omega)) ?_
 refine OpsW.q rfl (q_indexAddrA0 Tryz.underlying110 (by kernel_rfl) rfl rfl (by omega) (by omega)) ?_
 refine OpsW.q rfl (q_loadN (by kernel_rfl) rfl (hSl0.blk at2) (by omega)) ?_
 refine OpsW.q rfl (q_move (v := .int _ _) rfl) ?_
 refine OpsW.q rfl (q_remI rfl rfl (by omega)) ?_
 refine OpsW.q rfl (q_subI rfl rfl (by omega)) ?_
 refine OpsW.q rfl (q_shr rfl rfl (by omega)) ?_
 refine OpsW.q rfl (q_and rfl rfl) ?_
 rw [show ((n : Int) / 64).toNat = n / 64 from by omega, c_bit hC (by omega)]
 refine OpsW.q rfl (q_eql rfl rfl) ?_
 refine OpsW.nil ?_
 refine SeqP.go ?_
 refine AW.cond rfl (fun h1 => ?_) (fun h1 => ?_)
 ·
  try simp only [z1, z2, z3, z4, z5, z6, z7, z8, z9, z10, z11, z12, z13, z14] at h1
  have hb : C / 2 ^ (127 - n) % 2 = 1 := by omega
  have hl3 := pair_length (gmK B C n ^^^ shI B n)
  refine AW.region ?_
  refine OpsW.q rfl (q_loadAN (n := 2) (k := .u64) (by kernel_rfl) rfl (hSl0.blk at0) (by with_reducible assumption)) ?_
  refine OpsW.q rfl (q_loadAN (n := 2) (k := .u64) (by kernel_rfl) rfl (hSl0.blk at3) (by with_reducible assumption)) ?_
  refine OpsW.q rfl (o_call rfl Tryz.func101 rfl rfl (gwith_con hg hs)) ?_
  refine OpsW.ms (s_storeA (n := 2) (k := .u64) hSl0 at0 (by kernel_rfl) rfl rfl (by with_reducible assumption) (by simp only [nums_length, List.length_set, List.length_replicate, List.length_take, List.length_drop, List.length_append, List.length_cons, List.length_nil, ofB_length, toB_length]; omega)) ?_
  rintro _ H6 ⟨rfl, hS6⟩
  clear hSl0
  refine OpsW.nil ?_
  refine SeqP.go ?_
  refine AW.seq ?_
  refine AW.region ?_
  refine OpsW.q rfl (q_indexAddrA0 Tryz.underlying110 (by kernel_rfl) rfl rfl (by omega) (by omega)) ?_
  refine OpsW.q rfl (q_loadN (by kernel_rfl) rfl (hS6.blk at3) (by omega)) ?_
  refine OpsW.q rfl (q_and rfl rfl) ?_
  refine OpsW.q rfl (q_assign (v := .int _ _) rfl) ?_
  refine OpsW.nil ?_
  refine SeqP.go ?_
  refine AW.region ?_
  refine OpsW.q rfl (q_indexAddrA0 Tryz.underlying110 (by kernel_rfl) rfl rfl (by omega) (by omega)) ?_
  refine OpsW.q rfl (q_loadN (by kernel_rfl) rfl (hS6.blk at3) (by omega)) ?_
  refine OpsW.q rfl (q_shrL 1 rfl rfl (by decide) rfl) ?_
  refine OpsW.q rfl (q_move (v := .int _ _) rfl) ?_
  refine OpsW.q rfl (q_mul rfl rfl) ?_
  refine OpsW.q rfl (q_xor rfl rfl) ?_
  refine OpsW.q rfl (q_indexAddrA0 Tryz.underlying110 (by kernel_rfl) rfl rfl (by omega) (by omega)) ?_
  refine OpsW.q rfl (q_loadN (by kernel_rfl) rfl (hS6.blk at3) (by omega)) ?_
  refine OpsW.q rfl (q_shrL 1 rfl rfl (by decide) rfl) ?_
  refine OpsW.q rfl (q_indexAddrA0 Tryz.underlying110 (by kernel_rfl) rfl rfl (by omega) (by omega)) ?_
  refine OpsW.q rfl (q_loadN (by kernel_rfl) rfl (hS6.blk at3) (by omega)) ?_
  refine OpsW.q rfl (q_shlL 63 rfl rfl (by decide) rfl) ?_
  refine OpsW.q rfl (q_or rfl rfl) ?_
  refine OpsW.q rfl (q_buildN (k := .u64) [_, _] rfl (by kernel_rfl)) ?_
  refine OpsW.ms (s_storeA (n := 2) (k := .u64) hS6 at3 (by kernel_rfl) rfl rfl (by simp; done) (by simp only [nums_length, List.length_set, List.length_replicate, List.length_take, List.length_drop, List.length_append, List.length_cons, List.length_nil, ofB_length, toB_length]; omega)) ?_
  rintro _ H7 ⟨rfl, hS7⟩
  clear hS6
  refine OpsW.nil ?_
  refine BlockP.go ?_
  refine SeqP.go ?_
  refine AW.region ?_
  refine OpsW.q rfl (q_addI rfl rfl (by omega)) ?_
  refine OpsW.q rfl (q_move (v := .int _ _) rfl) ?_
  refine OpsW.nil ?_
  exact LoopP.go _ (by omega) ⟨n + 1, _, rfl, (by omega), Slots.eq ⟨(by rfl), (by rfl), (by rfl), (by rfl), (by rfl),  trivial⟩, (by rw [gmK_yes hb, shI_succ', ← sh_pair hs]; exact hS7)⟩
 try simp only [z1, z2, z3, z4, z5, z6, z7, z8, z9, z10, z11, z12, z13, z14] at h1
 have hb : C / 2 ^ (127 - n) % 2 = 0 := by omega
 refine AW.skip ?_
 refine SeqP.go ?_
 refine AW.seq ?_
 refine AW.region ?_
 refine OpsW.q rfl (q_indexAddrA0 Tryz.underlying110 (by kernel_rfl) rfl rfl (by omega) (by omega)) ?_
 refine OpsW.q rfl (q_loadN (by kernel_rfl) rfl (hSl0.blk at3) (by omega)) ?_
 refine OpsW.q rfl (q_and rfl rfl) ?_
 refine OpsW.q rfl (q_assign (v := .int _ _) rfl) ?_
 refine OpsW.nil ?_
 refine SeqP.go ?_
 refine AW.region ?_
 refine OpsW.q rfl (q_indexAddrA0 Tryz.underlying110 (by kernel_rfl) rfl rfl (by omega) (by omega)) ?_
 refine OpsW.q rfl (q_loadN (by kernel_rfl) rfl (hSl0.blk at3) (by omega)) ?_
 refine OpsW.q rfl (q_shrL 1 rfl rfl (by decide) rfl) ?_
 refine OpsW.q rfl (q_move (v := .int _ _) rfl) ?_
 refine OpsW.q rfl (q_mul rfl rfl) ?_
 refine OpsW.q rfl (q_xor rfl rfl) ?_
 refine OpsW.q rfl (q_indexAddrA0 Tryz.underlying110 (by kernel_rfl) rfl rfl (by omega) (by omega)) ?_
 refine OpsW.q rfl (q_loadN (by kernel_rfl) rfl (hSl0.blk at3) (by omega)) ?_
 refine OpsW.q rfl (q_shrL 1 rfl rfl (by decide) rfl) ?_
 refine OpsW.q rfl (q_indexAddrA0 Tryz.underlying110 (by kernel_rfl) rfl rfl (by omega) (by omega)) ?_
 refine OpsW.q rfl (q_loadN (by kernel_rfl) rfl (hSl0.blk at3) (by omega)) ?_
 refine OpsW.q rfl (q_shlL 63 rfl rfl (by decide) rfl) ?_
 refine OpsW.q rfl (q_or rfl rfl) ?_
 refine OpsW.q rfl (q_buildN (k := .u64) [_, _] rfl (by kernel_rfl)) ?_
 refine OpsW.ms (s_storeA (n := 2) (k := .u64) hSl0 at3 (by kernel_rfl) rfl rfl (by simp; done) (by simp only [nums_length, List.length_set, List.length_replicate, List.length_take, List.length_drop, List.length_append, List.length_cons, List.length_nil, ofB_length, toB_length]; omega)) ?_
 rintro _ H8 ⟨rfl, hS8⟩
 clear hSl0
 refine OpsW.nil ?_
 refine BlockP.go ?_
 refine SeqP.go ?_
 refine AW.region ?_
 refine OpsW.q rfl (q_addI rfl rfl (by omega)) ?_
 refine OpsW.q rfl (q_move (v := .int _ _) rfl) ?_
 refine OpsW.nil ?_
 exact LoopP.go _ (by omega) ⟨n + 1, _, rfl, (by omega), Slots.eq ⟨(by rfl), (by rfl), (by rfl), (by rfl), (by rfl),  trivial⟩, (by rw [gmK_no hb, shI_succ', ← sh_pair hs]; exact hS8)⟩
end
end Go.Proofs.YtfpoldogcopmpaaGreatDoor
end
section
namespace Go.Proofs.YtfpoldogcopmpaaGreatDoor
open Go Go.RowKit D
set_option linter.unusedVariables false
set_option linter.unusedSimpArgs false
set_option maxRecDepth 100000
set_option maxHeartbeats 2000000
section
variable {w0 : World} {H : Hp} {H0 : Hp}
theorem twice_con (n : Nat) (hn : n < 256) : Con Tryz.prog w0 128 #[.int .u8 ((n : Nat) : Int)] H (fun v H' => v = .int .u8 ((twN n : Nat) : Int) ∧ H' = H) := by
 have hS0 : Sep H [] H := Sep.refl
 refine Con.intro Tryz.func128 rfl rfl ?_
 refine AW.seq ?_
 refine AW.region ?_
 refine OpsW.q rfl (q_assign (v := .int _ _) rfl) ?_
 refine OpsW.nil ?_
 refine SeqP.go ?_
 refine AW.seq ?_
 refine AW.region ?_
 refine OpsW.q rfl (q_move (v := .int _ _) rfl) ?_
 refine OpsW.q rfl (q_shlL 1 rfl rfl (by decide) rfl) ?_
 refine OpsW.q rfl (q_move (v := .int _ _) rfl) ?_
 refine OpsW.q rfl (q_shrL 7 rfl rfl (by decide) rfl) ?_
 refine OpsW.q rfl (q_mul rfl rfl) ?_
 refine OpsW.q rfl (q_xor rfl rfl) ?_
 refine OpsW.q rfl (q_assign (v := .int _ _) rfl) ?_
 refine OpsW.nil ?_
 refine SeqP.go ?_
 refine AW.ret ?_
 refine RetP.mk1 (H' := H) (v1 := .int _ _) rfl rfl  hS0.le ?_
 have e := twice_eq (UInt8.ofNat n)
 rw [tw_toNat, UInt8.toNat_ofNat', Nat.mod_eq_of_lt hn] at e
 exact ⟨congrArg (Value.int .u8) e, rfl⟩
theorem twiceB_con (c : UInt8) : Con Tryz.prog w0 128 #[BV c] H (fun v H' => v = BV (tw c) ∧ H' = H) := (twice_con c.toNat c.toNat_lt).mono fun _ _ ⟨h1, h2⟩ => ⟨by rw [h1, ← tw_toNat], h2⟩
theorem times_con (a b : UInt8) : Con Tryz.prog w0 132 #[BV a, BV b] H (fun v H' => v = BV (tm a b) ∧ H' = H) := by
 have hS0 : Sep H [] H := Sep.refl
 have ha := a.toNat_lt
 have hb := b.toNat_lt
 refine Con.intro Tryz.func132 rfl rfl ?_
 refine AW.seq ?_
 refine AW.region ?_
 refine OpsW.q rfl (q_assign (v := .int _ _) rfl) ?_
 refine OpsW.nil ?_
 refine SeqP.go ?_
 refine AW.seq ?_
 refine AW.region ?_
 refine OpsW.q rfl (q_assign (v := .int _ _) rfl) ?_
 refine OpsW.nil ?_
 refine SeqP.go ?_
 refine AW.seq ?_
 refine AW.block ?_
 refine AW.loop (fun m_ e_ H_ => ∃ (j : Nat) (e0 : Env), m_ = 8 - j ∧ (j ≤ 8) ∧ e_ = upds e0 [(0, .int .u8 ((twI a.toNat j : Nat) : Int)), (1, .int .u8 ((b.toNat / 2 ^ j : Nat) : Int)), (5, .int .u8 ((tmK a.toNat b.toNat j : Nat) : Int))] ∧ Sep H [] H_) _ ⟨0, _, rfl, (by omega), Slots.eq ⟨(by rfl), (by rw [Nat.pow_zero, Nat.div_one]; rfl), (by rfl),  trivial⟩, hS0⟩ ?_
 rintro m_ _ Hl0 ⟨j, e0, rfl, hf, rfl, hSl0⟩
 try clear hS0
 refine AW.seq ?_
 refine AW.seq ?_
 refine AW.region ?_
 refine OpsW.q rfl (q_move (v := .int _ _) rfl) ?_
 refine OpsW.q rfl (q_gtr rfl rfl) ?_
 refine OpsW.nil ?_
 refine SeqP.go ?_
 refine AW.cond2 rfl (fun h0 => ?_) (fun h0 => ?_)
 ·
  try simp only [z1, z2, z3, z4, z5, z6, z7, z8, z9, z10, z11, z12, z13, z14] at h0
  have hz : b.toNat / 2 ^ j = 0 := Nat.le_zero.1 (Int.ofNat_le.1 h0)
  refine AW.exit ?_
  refine SeqP.exit ?_
  refine LoopP.exit ?_
  refine BlockP.here ?_
  refine SeqP.go ?_
  refine AW.seq ?_
  refine AW.region ?_
  refine OpsW.q rfl (q_move (v := .int _ _) rfl) ?_
  refine OpsW.q rfl (q_assign (v := .int _ _) rfl) ?_
  refine OpsW.nil ?_
  refine SeqP.go ?_
  refine AW.ret ?_
  refine RetP.mk1 (H' := H) (v1 := .int _ _) rfl rfl  hSl0.le ?_
  exact ⟨by rw [tmK_done hb hz hf, ← tm_toNat], rfl⟩
 try simp only [z1, z2, z3, z4, z5, z6, z7, z8, z9, z10, z11, z12, z13, z14] at h0
 have hj8 := lt8 hb (Int.ofNat_lt.1 h0) hf
 refine AW.skip ?_
 refine SeqP.go ?_
 refine AW.seq ?_
 refine AW.block ?_
 refine AW.seq ?_
 refine AW.region ?_
 refine OpsW.q rfl (q_move (v := .int _ _) rfl) ?_
 refine OpsW.q rfl (q_move (v := .int _ _) rfl) ?_
 refine OpsW.q rfl (q_and rfl rfl) ?_
 rw [and_one (div_lt hb)]
 refine OpsW.q rfl (q_move (v := .int _ _) rfl) ?_
 refine OpsW.q rfl (q_mul rfl rfl) ?_
 refine OpsW.q rfl (q_xor rfl rfl) ?_
 refine OpsW.q rfl (q_assign (v := .int _ _) rfl) ?_
 refine OpsW.nil ?_
 refine SeqP.go ?_
 refine AW.region ?_
 refine OpsW.q rfl (q_move (v := .int _ _) rfl) ?_
 refine OpsW.q rfl (o_call rfl Tryz.func128 rfl rfl (twice_con _ (twI_lt ha j))) ?_
 refine OpsW.q rfl (q_assign (v := .int _ _) rfl) ?_
 refine OpsW.nil ?_
 refine BlockP.go ?_
 refine SeqP.go ?_
 refine AW.region ?_
 refine OpsW.q rfl (q_move (v := .int _ _) rfl) ?_
 refine OpsW.q rfl (q_shrL 1 rfl rfl (by decide) rfl) ?_
 refine OpsW.q rfl (q_assign (v := .int _ _) rfl) ?_
 refine OpsW.nil ?_
 exact LoopP.go _ (by omega) ⟨j + 1, _, rfl, (by omega), Slots.eq ⟨(by rfl), (by rw [← half_step]; rfl), (by rw [← times_step ha]; rfl),  trivial⟩, hSl0⟩
theorem rot_con (c : UInt8) {k : Nat} (hk : k < 5) : Con Tryz.prog w0 133 #[BV c, .int .i64 (k : Int)] H (fun v H' => v = BV (rotB c k) ∧ H' = H) := by
 have hS0 : Sep H [] H := Sep.refl
 refine Con.intro Tryz.func133 rfl rfl ?_
 refine AW.seq ?_
 refine AW.region ?_
 refine OpsW.q rfl (q_assign (v := .int _ _) rfl) ?_
 refine OpsW.nil ?_
 refine SeqP.go ?_
 refine AW.seq ?_
 refine AW.region ?_
 refine OpsW.q rfl (q_move (v := .int _ _) rfl) ?_
 refine OpsW.q rfl (q_convInt rfl Tryz.underlying34 rfl) ?_
 refine OpsW.q rfl (q_and rfl rfl) ?_
 refine OpsW.q rfl (q_assign (v := .int _ _) rfl) ?_
 refine OpsW.nil ?_
 refine SeqP.go ?_
 refine AW.seq ?_
 refine AW.region ?_
 refine OpsW.q rfl (q_move (v := .int _ _) rfl) ?_
 refine OpsW.q rfl (q_move (v := .int _ _) rfl) ?_
 refine OpsW.q rfl (q_shl rfl rfl (iand64_nonneg _ _)) ?_
 refine OpsW.q rfl (q_move (v := .int _ _) rfl) ?_
 refine OpsW.q rfl (q_move (v := .int _ _) rfl) ?_
 refine OpsW.q rfl (q_sub rfl rfl) ?_
 refine OpsW.q rfl (q_shr rfl rfl (wrap64_nonneg _)) ?_
 refine OpsW.q rfl (q_or rfl rfl) ?_
 refine OpsW.q rfl (q_assign (v := .int _ _) rfl) ?_
 refine OpsW.nil ?_
 refine SeqP.go ?_
 refine AW.ret ?_
 refine RetP.mk1 (H' := H) (v1 := .int _ _) rfl rfl  hS0.le ?_
 exact ⟨congrArg (Value.int .u8) (rot_eq c hk), rfl⟩
theorem table_con : Con Tryz.prog w0 127 #[] H (fun v H' => ∃ b, v = .pointer (some ⟨b, 0, none⟩) ∧ Sep H [.blk b ⟨nums .u8 (ofB sbox), 256, 173⟩] H') := by
 have hS0 : Sep H [] H := Sep.refl
 refine Con.intro Tryz.func127 rfl rfl ?_
 refine AW.seq ?_
 refine AW.region ?_
 refine OpsW.q rfl (q_assign (v := .pointer _) rfl) ?_
 refine OpsW.nil ?_
 refine SeqP.go ?_
 refine AW.seq ?_
 refine AW.region ?_
 refine OpsW.m rfl (s_allocB 256 hS0 (by kernel_rfl)) ?_
 rintro _ H1 ⟨b1, rfl, hS1⟩
 clear hS0
 refine OpsW.nil ?_
 refine SeqP.go ?_
 refine AW.seq ?_
 refine AW.region ?_
 refine OpsW.q rfl (q_assign (v := .int _ _) rfl) ?_
 refine OpsW.q rfl (q_assign (v := .int _ _) rfl) ?_
 refine OpsW.nil ?_
 refine SeqP.go ?_
 refine AW.seq ?_
 refine AW.seq ?_
 refine AW.region ?_
 refine OpsW.q rfl (q_move (v := .int _ _) rfl) ?_
 refine OpsW.nil ?_
 refine SeqP.go ?_
 refine AW.block ?_
 refine AW.loop (fun m_ e_ H_ => ∃ (i : Nat) (e0 : Env), m_ = 255 - i ∧ (i ≤ 255) ∧ e_ = upds e0 [(1, .pointer (some ⟨b1, 0, none⟩)), (2, BV (tabK i).1.1), (3, BV (tabK i).1.2), (6, .int .i64 (i : Int))] ∧ Sep H [.blk b1 ⟨nums .u8 ((ofB (tabK i).2)), 256, 173⟩] H_) _ ⟨0, _, rfl, (by omega), Slots.eq ⟨(by rfl), (by rw [tabK_zero']; rfl), (by rw [tabK_zero']; rfl), (by rfl),  trivial⟩, (by rw [tabK_zero']; exact hS1)⟩ ?_
 rintro m_ _ Hl0 ⟨i, e0, rfl, hf, rfl, hSl0⟩
 try clear hS1
 have htl := tabK_length i
 have hp1 := (tm (tabK i).1.1 3).toNat_lt
 refine AW.seq ?_
 refine AW.region ?_
 refine OpsW.q rfl (q_lss rfl rfl) ?_
 refine OpsW.nil ?_
 refine SeqP.go ?_
 refine AW.seq ?_
 refine AW.cond2 rfl (fun h0 => ?_) (fun h0 => ?_)
 ·
  try simp only [z1, z2, z3, z4, z5, z6, z7, z8, z9, z10, z11, z12, z13, z14] at h0
  refine AW.exit ?_
  refine SeqP.exit ?_
  refine LoopP.exit ?_
  obtain rfl : i = 255 := by omega
  refine BlockP.here ?_
  refine SeqP.go ?_
  refine AW.seq ?_
  refine AW.region ?_
  refine OpsW.q rfl (q_indexAddrA0 Tryz.underlying173 (by kernel_rfl) rfl rfl (by omega) (by omega)) ?_
  refine OpsW.ms (s_storeB (c := 99) hSl0 at0 (by kernel_rfl) rfl rfl (by omega)) ?_
  rintro _ H2 ⟨rfl, hS2⟩
  clear hSl0
  refine OpsW.nil ?_
  refine SeqP.go ?_
  refine AW.seq ?_
  refine AW.region ?_
  refine OpsW.q rfl (q_assign (v := .pointer _) rfl) ?_
  refine OpsW.nil ?_
  refine SeqP.go ?_
  refine AW.ret ?_
  refine RetP.mk1 (H' := H2) (v1 := .pointer _) rfl rfl  (Hp.le_refl _) ?_
  have hs := hS2
  rw [show (0 : Int).toNat = 0 from rfl, tab_fin] at hs
  exact ⟨b1, rfl, hs⟩
 try simp only [z1, z2, z3, z4, z5, z6, z7, z8, z9, z10, z11, z12, z13, z14] at h0
 refine AW.skip ?_
 refine SeqP.go ?_
 refine AW.seq ?_
 refine AW.block ?_
 refine AW.seq ?_
 refine AW.region ?_
 refine OpsW.q rfl (q_move (v := .int _ _) rfl) ?_
 refine OpsW.q rfl (o_call rfl Tryz.func132 rfl rfl (times_con _ 3)) ?_
 refine OpsW.q rfl (q_assign (v := .int _ _) rfl) ?_
 refine OpsW.nil ?_
 refine SeqP.go ?_
 refine AW.seq ?_
 refine AW.region ?_
 refine OpsW.q rfl (q_move (v := .int _ _) rfl) ?_
 refine OpsW.q rfl (o_call rfl Tryz.func132 rfl rfl (times_con _ 246)) ?_
 refine OpsW.q rfl (q_assign (v := .int _ _) rfl) ?_
 refine OpsW.nil ?_
 refine SeqP.go ?_
 refine AW.seq ?_
 refine AW.region ?_
 refine OpsW.q rfl (q_assign (v := .int _ _) rfl) ?_
 refine OpsW.nil ?_
 refine SeqP.go ?_
 refine AW.seq ?_
 refine AW.seq ?_
 refine AW.region ?_
 refine OpsW.q rfl (q_move (v := .int _ _) rfl) ?_
 refine OpsW.nil ?_
 refine SeqP.go ?_
 refine AW.block ?_
 refine AW.loop (fun m_ e_ H_ => ∃ (k : Nat) (e0 : Env), m_ = 5 - k ∧ (k ≤ 5) ∧ e_ = upds e0 [(1, .pointer (some ⟨b1, 0, none⟩)), (2, BV (tm (tabK i).1.1 3)), (3, BV (tm (tabK i).1.2 246)), (4, BV (stK (tm (tabK i).1.2 246) k)), (6, .int .i64 (i : Int)), (12, .int .i64 (k : Int))] ∧ Sep H [.blk b1 ⟨nums .u8 ((ofB (tabK i).2)), 256, 173⟩] H_) _ ⟨0, _, rfl, (by omega), Slots.eq ⟨(by rfl), (by rfl), (by rfl), (by rw [stK_zero]; rfl), (by rfl), (by rfl),  trivial⟩, hSl0⟩ ?_
 rintro m_ _ Hl1 ⟨k, e0, rfl, hf, rfl, hSl1⟩
 try clear hSl0
 refine AW.seq ?_
 refine AW.region ?_
 refine OpsW.q rfl (q_lss rfl rfl) ?_
 refine OpsW.nil ?_
 refine SeqP.go ?_
 refine AW.seq ?_
 refine AW.cond2 rfl (fun h1 => ?_) (fun h1 => ?_)
 ·
  try simp only [z1, z2, z3, z4, z5, z6, z7, z8, z9, z10, z11, z12, z13, z14] at h1
  refine AW.exit ?_
  refine SeqP.exit ?_
  refine LoopP.exit ?_
  obtain rfl : k = 5 := by omega
  refine BlockP.here ?_
  refine SeqP.go ?_
  refine AW.region ?_
  refine OpsW.q rfl (q_move (v := .int _ _) rfl) ?_
  refine OpsW.q rfl (q_move (v := .int _ _) rfl) ?_
  refine OpsW.q rfl (q_indexAddrA0 Tryz.underlying173 (by kernel_rfl) rfl rfl (by omega) (by omega)) ?_
  refine OpsW.ms (s_storeB hSl1 at0 (by kernel_rfl) rfl rfl (by omega)) ?_
  rintro _ H3 ⟨rfl, hS3⟩
  clear hSl1
  refine OpsW.nil ?_
  refine BlockP.go ?_
  refine SeqP.go ?_
  refine AW.region ?_
  refine OpsW.q rfl (q_addI rfl rfl (by omega)) ?_
  refine OpsW.q rfl (q_move (v := .int _ _) rfl) ?_
  refine OpsW.nil ?_
  exact LoopP.go _ (by omega) ⟨i + 1, _, rfl, (by omega), Slots.eq ⟨(by rfl), (by rw [tabK_succ']; rfl), (by rw [tabK_succ']; rfl), (by rfl),  trivial⟩, (by rw [tabK_succ']; exact hS3)⟩
 try simp only [z1, z2, z3, z4, z5, z6, z7, z8, z9, z10, z11, z12, z13, z14] at h1
 refine AW.skip ?_
 refine SeqP.go ?_
 refine AW.seq ?_
 refine AW.block ?_
 refine AW.seq ?_
 refine AW.region ?_
 refine OpsW.q rfl (q_move (v := .int _ _) rfl) ?_
 refine OpsW.q rfl (q_assign (v := .int _ _) rfl) ?_
 refine OpsW.nil ?_
 refine SeqP.go ?_
 refine AW.region ?_
 refine OpsW.q rfl (q_move (v := .int _ _) rfl) ?_
 refine OpsW.q rfl (q_move (v := .int _ _) rfl) ?_
 refine OpsW.q rfl (q_move (v := .int _ _) rfl) ?_
 refine OpsW.q rfl (o_call rfl Tryz.func133 rfl rfl (rot_con _ (by omega))) ?_
 refine OpsW.q rfl (q_xorB rfl rfl) ?_
 refine OpsW.q rfl (q_assign (v := .int _ _) rfl) ?_
 refine OpsW.nil ?_
 refine BlockP.go ?_
 refine SeqP.go ?_
 refine AW.region ?_
 refine OpsW.q rfl (q_addI rfl rfl (by omega)) ?_
 refine OpsW.q rfl (q_move (v := .int _ _) rfl) ?_
 refine OpsW.nil ?_
 exact LoopP.go _ (by omega) ⟨k + 1, _, rfl, (by omega), Slots.eq ⟨(by rfl), (by rfl), (by rfl), (by rw [stK_succ']; rfl), (by rfl), (by rfl),  trivial⟩, hSl1⟩
end
end Go.Proofs.YtfpoldogcopmpaaGreatDoor
end
section
namespace Go.Proofs.YtfpoldogcopmpaaGreatDoor
open Go Go.RowKit D
set_option linter.unusedVariables false
set_option linter.unusedSimpArgs false
set_option maxRecDepth 100000
set_option maxHeartbeats 2000000
section
variable {w0 : World} {H : Hp} {H0 : Hp}
theorem mixed_con {b o n c sz : Nat} {el : TypeId} {l : List UInt8} (hS0 : Sep H0 [.blk b ⟨nums .u8 (ofB l), sz, el⟩] H) (hn : 4 ≤ n) (ho : o + 4 ≤ l.length) : Con Tryz.prog w0 130 #[.slice (some ⟨b, o, none⟩) n c] H (fun v H' => v = .tuple #[] ∧ Sep H0 [.blk b ⟨nums .u8 (ofB (mixO l o)), sz, el⟩] H') := by
 refine Con.intro Tryz.func130 rfl rfl ?_
 refine AW.seq ?_
 refine AW.drawK [] 15 rfl (by kernel_rfl) ?_
 refine SeqK.q rfl (q_move (v := .slice _ _ _) rfl) ?_
 refine SeqK.q rfl (q_indexAddrV (sz := 1) Tryz.underlying35 (by kernel_rfl) rfl rfl (by omega) (by omega)) ?_
 refine SeqK.q rfl (q_loadB (by kernel_rfl) rfl (hS0.blk at0) (by omega)) ?_
 refine SeqK.q rfl (q_move (v := .slice _ _ _) rfl) ?_
 refine SeqK.q rfl (q_indexAddrV (sz := 1) Tryz.underlying35 (by kernel_rfl) rfl rfl (by omega) (by omega)) ?_
 refine SeqK.q rfl (q_loadB (by kernel_rfl) rfl (hS0.blk at0) (by omega)) ?_
 refine SeqK.q rfl (q_move (v := .slice _ _ _) rfl) ?_
 refine SeqK.q rfl (q_indexAddrV (sz := 1) Tryz.underlying35 (by kernel_rfl) rfl rfl (by omega) (by omega)) ?_
 refine SeqK.q rfl (q_loadB (by kernel_rfl) rfl (hS0.blk at0) (by omega)) ?_
 refine SeqK.q rfl (q_move (v := .slice _ _ _) rfl) ?_
 refine SeqK.q rfl (q_indexAddrV (sz := 1) Tryz.underlying35 (by kernel_rfl) rfl rfl (by omega) (by omega)) ?_
 refine SeqK.q rfl (q_loadB (by kernel_rfl) rfl (hS0.blk at0) (by omega)) ?_
 refine SeqK.q rfl (q_assign (v := .int _ _) rfl) ?_
 refine SeqK.q rfl (q_assign (v := .int _ _) rfl) ?_
 refine SeqK.q rfl (q_assign (v := .int _ _) rfl) ?_
 refine SeqK.done ?_
 refine OpsW.q rfl (q_assign (v := .int _ _) rfl) ?_
 refine OpsW.nil ?_
 refine SeqP.go ?_
 refine AW.seq ?_
 refine AW.region ?_
 refine OpsW.q rfl (q_move (v := .int _ _) rfl) ?_
 refine OpsW.q rfl (q_move (v := .int _ _) rfl) ?_
 refine OpsW.q rfl (q_xorB rfl rfl) ?_
 refine OpsW.q rfl (q_move (v := .int _ _) rfl) ?_
 refine OpsW.q rfl (q_xorB rfl rfl) ?_
 refine OpsW.q rfl (q_move (v := .int _ _) rfl) ?_
 refine OpsW.q rfl (q_xorB rfl rfl) ?_
 refine OpsW.q rfl (q_assign (v := .int _ _) rfl) ?_
 refine OpsW.nil ?_
 refine SeqP.go ?_
 refine AW.seq ?_
 refine AW.drawK [] 9 rfl (by kernel_rfl) ?_
 refine SeqK.q rfl (q_move (v := .slice _ _ _) rfl) ?_
 refine SeqK.q rfl (q_indexAddrV (sz := 1) Tryz.underlying35 (by kernel_rfl) rfl rfl (by omega) (by omega)) ?_
 refine SeqK.q rfl (q_loadB (by kernel_rfl) rfl (hS0.blk at0) (by omega)) ?_
 refine SeqK.q rfl (q_move (v := .int _ _) rfl) ?_
 refine SeqK.q rfl (q_move (v := .int _ _) rfl) ?_
 refine SeqK.q rfl (q_move (v := .int _ _) rfl) ?_
 refine SeqK.q rfl (q_xorB rfl rfl) ?_
 refine SeqK.q rfl (o_call rfl Tryz.func128 rfl rfl (twiceB_con _)) ?_
 refine SeqK.q rfl (q_xorB rfl rfl) ?_
 refine SeqK.done ?_
 refine OpsW.q rfl (q_xorB rfl rfl) ?_
 refine OpsW.q rfl (q_indexAddrV (sz := 1) Tryz.underlying35 (by kernel_rfl) rfl rfl (by omega) (by omega)) ?_
 refine OpsW.ms (s_storeB hS0 at0 (by kernel_rfl) rfl rfl (by omega)) ?_
 rintro _ H1 ⟨rfl, hS1⟩
 clear hS0
 refine OpsW.nil ?_
 refine SeqP.go ?_
 refine AW.seq ?_
 refine AW.drawK [] 9 rfl (by kernel_rfl) ?_
 refine SeqK.q rfl (q_move (v := .slice _ _ _) rfl) ?_
 refine SeqK.q rfl (q_indexAddrV (sz := 1) Tryz.underlying35 (by kernel_rfl) rfl rfl (by omega) (by omega)) ?_
 refine SeqK.q rfl (q_loadB (by kernel_rfl) rfl (hS1.blk at0) (by simp only [nums_length, List.length_set, List.length_replicate, List.length_take, List.length_drop, List.length_append, List.length_cons, List.length_nil, ofB_length, toB_length]; omega)) ?_
 refine SeqK.q rfl (q_move (v := .int _ _) rfl) ?_
 refine SeqK.q rfl (q_move (v := .int _ _) rfl) ?_
 refine SeqK.q rfl (q_move (v := .int _ _) rfl) ?_
 refine SeqK.q rfl (q_xorB rfl rfl) ?_
 refine SeqK.q rfl (o_call rfl Tryz.func128 rfl rfl (twiceB_con _)) ?_
 refine SeqK.q rfl (q_xorB rfl rfl) ?_
 refine SeqK.done ?_
 refine OpsW.q rfl (q_xorB rfl rfl) ?_
 refine OpsW.q rfl (q_indexAddrV (sz := 1) Tryz.underlying35 (by kernel_rfl) rfl rfl (by omega) (by omega)) ?_
 refine OpsW.ms (s_storeB hS1 at0 (by kernel_rfl) rfl rfl (by simp only [nums_length, List.length_set, List.length_replicate, List.length_take, List.length_drop, List.length_append, List.length_cons, List.length_nil, ofB_length, toB_length]; omega)) ?_
 rintro _ H2 ⟨rfl, hS2⟩
 clear hS1
 refine OpsW.nil ?_
 refine SeqP.go ?_
 refine AW.seq ?_
 refine AW.drawK [] 9 rfl (by kernel_rfl) ?_
 refine SeqK.q rfl (q_move (v := .slice _ _ _) rfl) ?_
 refine SeqK.q rfl (q_indexAddrV (sz := 1) Tryz.underlying35 (by kernel_rfl) rfl rfl (by omega) (by omega)) ?_
 refine SeqK.q rfl (q_loadB (by kernel_rfl) rfl (hS2.blk at0) (by simp only [nums_length, List.length_set, List.length_replicate, List.length_take, List.length_drop, List.length_append, List.length_cons, List.length_nil, ofB_length, toB_length]; omega)) ?_
 refine SeqK.q rfl (q_move (v := .int _ _) rfl) ?_
 refine SeqK.q rfl (q_move (v := .int _ _) rfl) ?_
 refine SeqK.q rfl (q_move (v := .int _ _) rfl) ?_
 refine SeqK.q rfl (q_xorB rfl rfl) ?_
 refine SeqK.q rfl (o_call rfl Tryz.func128 rfl rfl (twiceB_con _)) ?_
 refine SeqK.q rfl (q_xorB rfl rfl) ?_
 refine SeqK.done ?_
 refine OpsW.q rfl (q_xorB rfl rfl) ?_
 refine OpsW.q rfl (q_indexAddrV (sz := 1) Tryz.underlying35 (by kernel_rfl) rfl rfl (by omega) (by omega)) ?_
 refine OpsW.ms (s_storeB hS2 at0 (by kernel_rfl) rfl rfl (by simp only [nums_length, List.length_set, List.length_replicate, List.length_take, List.length_drop, List.length_append, List.length_cons, List.length_nil, ofB_length, toB_length]; omega)) ?_
 rintro _ H3 ⟨rfl, hS3⟩
 clear hS2
 refine OpsW.nil ?_
 refine SeqP.go ?_
 refine AW.drawK [] 9 rfl (by kernel_rfl) ?_
 refine SeqK.q rfl (q_move (v := .slice _ _ _) rfl) ?_
 refine SeqK.q rfl (q_indexAddrV (sz := 1) Tryz.underlying35 (by kernel_rfl) rfl rfl (by omega) (by omega)) ?_
 refine SeqK.q rfl (q_loadB (by kernel_rfl) rfl (hS3.blk at0) (by simp only [nums_length, List.length_set, List.length_replicate, List.length_take, List.length_drop, List.length_append, List.length_cons, List.length_nil, ofB_length, toB_length]; omega)) ?_
 refine SeqK.q rfl (q_move (v := .int _ _) rfl) ?_
 refine SeqK.q rfl (q_move (v := .int _ _) rfl) ?_
 refine SeqK.q rfl (q_move (v := .int _ _) rfl) ?_
 refine SeqK.q rfl (q_xorB rfl rfl) ?_
 refine SeqK.q rfl (o_call rfl Tryz.func128 rfl rfl (twiceB_con _)) ?_
 refine SeqK.q rfl (q_xorB rfl rfl) ?_
 refine SeqK.done ?_
 refine OpsW.q rfl (q_xorB rfl rfl) ?_
 refine OpsW.q rfl (q_indexAddrV (sz := 1) Tryz.underlying35 (by kernel_rfl) rfl rfl (by omega) (by omega)) ?_
 refine OpsW.ms (s_storeB hS3 at0 (by kernel_rfl) rfl rfl (by simp only [nums_length, List.length_set, List.length_replicate, List.length_take, List.length_drop, List.length_append, List.length_cons, List.length_nil, ofB_length, toB_length]; omega)) ?_
 rintro _ H4 ⟨rfl, hS4⟩
 clear hS3
 refine OpsW.nil ?_
 refine RetP.end0 (H' := H4) rfl (Hp.le_refl _) ?_
 have hs := hS4
 refine ⟨rfl, ?_⟩
 rw [← mixO_eq rfl rfl rfl rfl]
 exact hs
theorem with_con {bc bs r sz : Nat} {el : TypeId} {v0 : Value} {ks s : List UInt8} (hS0 : Sep H0 [.blk bs ⟨nums .u8 (ofB s), sz, el⟩] H) (hc : H0 bc = some ⟨v0 :: nums .u8 (ofB ks), 177, 167⟩) (hk : ks.length = 176) (hs : s.length = 16) (hr : r < 11) : Con Tryz.prog w0 129 #[.pointer (some ⟨bc, 0, none⟩), .pointer (some ⟨bs, 0, none⟩), .int .i64 (r : Int)] H (fun v H' => v = .tuple #[] ∧ Sep H0 [.blk bs ⟨nums .u8 (ofB (xorA s (rkey ks r) 16)), sz, el⟩] H') := by
 refine Con.intro Tryz.func129 rfl rfl ?_
 refine AW.seq ?_
 refine AW.region ?_
 refine OpsW.q rfl (q_move (v := .int _ _) rfl) ?_
 refine OpsW.nil ?_
 refine SeqP.go ?_
 refine AW.block ?_
 refine AW.loop (fun m_ e_ H_ => ∃ (i : Nat) (e0 : Env), m_ = 16 - i ∧ (i ≤ 16) ∧ e_ = upds e0 [(0, .pointer (some ⟨bc, 0, none⟩)), (1, .pointer (some ⟨bs, 0, none⟩)), (2, .int .i64 (r : Int)), (7, .int .i64 (i : Int))] ∧ Sep H0 [.blk bs ⟨nums .u8 ((ofB (withK s (rkey ks r) i))), sz, el⟩] H_) _ ⟨0, _, rfl, (by omega), Slots.eq ⟨(by rfl), (by rfl), (by rfl), (by rfl),  trivial⟩, hS0⟩ ?_
 rintro m_ _ Hl0 ⟨i, e0, rfl, hf, rfl, hSl0⟩
 try clear hS0
 have hw := withK_length s (rkey ks r) i
 refine AW.seq ?_
 refine AW.region ?_
 refine OpsW.q rfl (q_lss rfl rfl) ?_
 refine OpsW.nil ?_
 refine SeqP.go ?_
 refine AW.seq ?_
 refine AW.cond2 rfl (fun h0 => ?_) (fun h0 => ?_)
 ·
  try simp only [z1, z2, z3, z4, z5, z6, z7, z8, z9, z10, z11, z12, z13, z14] at h0
  refine AW.exit ?_
  refine SeqP.exit ?_
  refine LoopP.exit ?_
  obtain rfl : i = 16 := by omega
  refine BlockP.here ?_
  refine RetP.end0 (H' := Hl0) rfl (Hp.le_refl _) ?_
  refine ⟨rfl, ?_⟩
  rw [← withK_eq hs]
  exact hSl0
 try simp only [z1, z2, z3, z4, z5, z6, z7, z8, z9, z10, z11, z12, z13, z14] at h0
 refine AW.skip ?_
 refine SeqP.go ?_
 refine AW.seq ?_
 refine AW.block ?_
 refine AW.seq ?_
 refine AW.region ?_
 refine OpsW.q rfl (q_move (v := .int _ _) rfl) ?_
 refine OpsW.q rfl (q_assign (v := .int _ _) rfl) ?_
 refine OpsW.nil ?_
 refine SeqP.go ?_
 refine AW.drawK [] 16 rfl (by kernel_rfl) ?_
 refine SeqK.q rfl (q_move (v := .pointer _) rfl) ?_
 refine SeqK.q rfl (q_move (v := .int _ _) rfl) ?_
 refine SeqK.q rfl (q_nilCheck rfl) ?_
 refine SeqK.q rfl (q_indexAddrA0 Tryz.underlying144 (by kernel_rfl) rfl rfl (by omega) (by omega)) ?_
 refine SeqK.q rfl (q_loadB (by kernel_rfl) rfl (hSl0.blk at0) (by omega)) ?_
 refine SeqK.q rfl (q_move (v := .pointer _) rfl) ?_
 refine SeqK.q rfl (q_move (v := .int _ _) rfl) ?_
 refine SeqK.q rfl (q_mulI rfl rfl (by omega)) ?_
 refine SeqK.q rfl (q_move (v := .int _ _) rfl) ?_
 refine SeqK.q rfl (q_addI rfl rfl (by omega)) ?_
 refine SeqK.q rfl (q_nilCheck rfl) ?_
 refine SeqK.q rfl (q_fieldTo (sz := 175) 1 Tryz.underlying167 rfl rfl (by kernel_rfl) rfl) ?_
 refine SeqK.q rfl (q_indexAddrA (sz := 1) Tryz.underlying165 (by kernel_rfl) rfl rfl (by omega) (by omega)) ?_
 refine SeqK.q rfl (q_loadTB1 (by kernel_rfl) rfl (hSl0.old hc) (by omega)) ?_
 refine SeqK.q rfl (q_xorB rfl rfl) ?_
 refine SeqK.q rfl (q_nilCheck rfl) ?_
 refine SeqK.done ?_
 refine OpsW.q rfl (q_indexAddrA0 Tryz.underlying144 (by kernel_rfl) rfl rfl (by omega) (by omega)) ?_
 refine OpsW.ms (s_storeB hSl0 at0 (by kernel_rfl) rfl rfl (by omega)) ?_
 rintro _ H1 ⟨rfl, hS1⟩
 clear hSl0
 refine OpsW.nil ?_
 refine BlockP.go ?_
 refine SeqP.go ?_
 refine AW.region ?_
 refine OpsW.q rfl (q_addI rfl rfl (by omega)) ?_
 refine OpsW.q rfl (q_move (v := .int _ _) rfl) ?_
 refine OpsW.nil ?_
 exact LoopP.go _ (by omega) ⟨i + 1, _, rfl, (by omega), Slots.eq ⟨(by rfl), (by rfl), (by rfl), (by rfl),  trivial⟩, (by have hq := hS1; rw [show (16 * (r : Int) + (i : Int)).toNat = 16 * r + i from by omega, Int.toNat_natCast, with_step (by omega)] at hq; exact hq)⟩
theorem ready_con {key : List UInt8} (hk : key.length = 16) : Con Tryz.prog w0 116 #[S key] H (fun v H' => ∃ bc bt, v = .pointer (some ⟨bc, 0, none⟩) ∧ Sep H [.blk bc ⟨.pointer (some ⟨bt, 0, none⟩) :: nums .u8 (ofB (keysL key)), 177, 167⟩, .blk bt ⟨nums .u8 (ofB sbox), 256, 173⟩] H') := by
 have hS0 : Sep H [] H := Sep.refl
 refine Con.intro Tryz.func116 rfl rfl ?_
 refine AW.seq ?_
 refine AW.region ?_
 refine OpsW.q rfl (q_assign (v := .pointer _) rfl) ?_
 refine OpsW.nil ?_
 refine SeqP.go ?_
 refine AW.seq ?_
 refine AW.region ?_
 refine OpsW.m rfl (o_call rfl Tryz.func127 rfl rfl (table_con)) ?_
 rintro _ H1 ⟨b8, rfl, hR1⟩
 have hS1 := hS0.join hR1
 simp only [List.cons_append, List.nil_append] at hS1
 clear hR1 hS0
 refine OpsW.q rfl (q_build (cells := (.pointer (some ⟨b8, 0, none⟩) :: nums .u8 (ofB (zs 176))).toArray) rfl (by kernel_rfl)) ?_
 refine OpsW.m rfl (s_box (cs := .pointer (some ⟨b8, 0, none⟩) :: nums .u8 (ofB (zs 176))) (v := .agg (.pointer (some ⟨b8, 0, none⟩) :: nums .u8 (ofB (zs 176))).toArray) hS1 rfl rfl) ?_
 rintro _ H2 ⟨b10, rfl, hS2⟩
 clear hS1
 have hz176 := zs_length 176
 simp only [List.length_cons, nums_length, ofB_length, zs_length, Nat.reduceAdd] at hS2
 refine OpsW.q rfl (q_assign (v := .pointer _) rfl) ?_
 refine OpsW.nil ?_
 refine SeqP.go ?_
 refine AW.seq ?_
 refine AW.region ?_
 refine OpsW.q rfl (q_move (v := .pointer _) rfl) ?_
 refine OpsW.q rfl (q_nilCheck rfl) ?_
 refine OpsW.q rfl (q_fieldTo (sz := 175) 1 Tryz.underlying167 rfl rfl (by kernel_rfl) rfl) ?_
 refine OpsW.q rfl (q_sliceArr_all (sz := 1) Tryz.underlying165 (by kernel_rfl) rfl ) ?_
 refine OpsW.q rfl (q_move (v := S _) rfl) ?_
 refine OpsW.m rfl (s_copyTB hS2 at0 Tryz.underlying35 (by kernel_rfl) rfl rfl (by omega) (by omega) src_str) ?_
 rintro _ H3 ⟨rfl, hS3⟩
 clear hS2
 refine OpsW.nil ?_
 refine SeqP.go ?_
 refine AW.seq ?_
 refine AW.region ?_
 refine OpsW.q rfl (q_assign (v := .int _ _) rfl) ?_
 refine OpsW.nil ?_
 refine SeqP.go ?_
 refine AW.seq ?_
 refine AW.seq ?_
 refine AW.region ?_
 refine OpsW.q rfl (q_assign (v := .int _ _) rfl) ?_
 refine OpsW.nil ?_
 refine SeqP.go ?_
 refine AW.block ?_
 refine AW.loop (fun m_ e_ H_ => ∃ (j : Nat) (e0 : Env), m_ = 40 - j ∧ (j ≤ 40) ∧ e_ = upds e0 [(3, .pointer (some ⟨b10, 0, none⟩)), (4, BV (expS key j).2), (5, .int .i64 ((16 + 4 * j : Nat) : Int))] ∧ Sep H [.blk b10 ⟨(.pointer (some ⟨b8, 0, none⟩) :: nums .u8 (ofB ((expS key j).1 ++ zs (160 - 4 * j)))), 177, 167⟩, .blk b8 ⟨nums .u8 ((ofB sbox)), 256, 173⟩] H_) _ ⟨0, _, rfl, (by omega), Slots.eq ⟨(by rfl), (by rw [expS_zero]; rfl), (by rfl),  trivial⟩, (by rw [← start_eq hk]; exact hS3)⟩ ?_
 rintro m_ _ Hl0 ⟨j, e0, rfl, hf, rfl, hSl0⟩
 try clear hS3
 have hx := expS_length key j
 have hz := zs_length (160 - 4 * j)
 have hlk : ((expS key j).1 ++ zs (160 - 4 * j)).length = 176 := by rw [List.length_append]; omega
 have hsb := sbox_length
 have ho : (((16 + 4 * j : Nat) : Int) - 4).toNat = 12 + 4 * j := by omega
 refine AW.seq ?_
 refine AW.seq ?_
 refine AW.region ?_
 refine OpsW.q rfl (q_move (v := .int _ _) rfl) ?_
 refine OpsW.q rfl (q_lss rfl rfl) ?_
 refine OpsW.nil ?_
 refine SeqP.go ?_
 refine AW.cond2 rfl (fun h0 => ?_) (fun h0 => ?_)
 ·
  try simp only [z1, z2, z3, z4, z5, z6, z7, z8, z9, z10, z11, z12, z13, z14] at h0
  refine AW.exit ?_
  refine SeqP.exit ?_
  refine LoopP.exit ?_
  obtain rfl : j = 40 := by omega
  refine BlockP.here ?_
  refine SeqP.go ?_
  refine AW.seq ?_
  refine AW.region ?_
  refine OpsW.q rfl (q_move (v := .pointer _) rfl) ?_
  refine OpsW.q rfl (q_assign (v := .pointer _) rfl) ?_
  refine OpsW.nil ?_
  refine SeqP.go ?_
  refine AW.ret ?_
  refine RetP.mk1 (H' := Hl0) (v1 := .pointer _) rfl rfl  (Hp.le_refl _) ?_
  have hs := hSl0
  rw [keys_fin] at hs
  exact ⟨b10, b8, rfl, hs⟩
 try simp only [z1, z2, z3, z4, z5, z6, z7, z8, z9, z10, z11, z12, z13, z14] at h0
 refine AW.skip ?_
 refine SeqP.go ?_
 refine AW.seq ?_
 refine AW.block ?_
 refine AW.seq ?_
 refine AW.region ?_
 refine OpsW.q rfl (q_move (v := .pointer _) rfl) ?_
 refine OpsW.q rfl (q_nilCheck rfl) ?_
 refine OpsW.q rfl (q_fieldTo (sz := 175) 1 Tryz.underlying167 rfl rfl (by kernel_rfl) rfl) ?_
 refine OpsW.q rfl (q_move (v := .int _ _) rfl) ?_
 refine OpsW.q rfl (q_subI rfl rfl (by omega)) ?_
 refine OpsW.q rfl (q_move (v := .int _ _) rfl) ?_
 refine OpsW.q rfl (q_sliceArr (sz := 1) Tryz.underlying165 (by kernel_rfl) rfl rfl rfl (by omega) (by omega) (by omega) (by omega)) ?_
 refine OpsW.q rfl (q_arrayAt Tryz.underlying168 rfl (by omega)) ?_
 refine OpsW.q rfl (q_loadTA1 (n := 4) (by kernel_rfl) rfl (hSl0.blk at0) (by omega)) ?_
 refine OpsW.m rfl (s_allocB 4 hSl0 (by kernel_rfl)) ?_
 rintro _ H4 ⟨b6, rfl, hS4⟩
 clear hSl0
 refine OpsW.ms (s_storeA (n := 4) (k := .u8) hS4 at0 (by kernel_rfl) rfl rfl (by simp only [nums_length, List.length_set, List.length_replicate, List.length_take, List.length_drop, List.length_append, List.length_cons, List.length_nil, ofB_length, toB_length]; omega) (by rfl)) ?_
 rintro _ H5 ⟨rfl, hS5⟩
 clear hS4
 refine OpsW.nil ?_
 refine SeqP.go ?_
 refine AW.seq ?_
 refine AW.seq ?_
 refine AW.region ?_
 refine OpsW.q rfl (q_move (v := .int _ _) rfl) ?_
 refine OpsW.q rfl (q_remI rfl rfl (by omega)) ?_
 refine OpsW.q rfl (q_eql rfl rfl) ?_
 refine OpsW.nil ?_
 refine SeqP.go ?_
 refine AW.cond rfl (fun h1 => ?_) (fun h1 => ?_)
 ·
  try simp only [z1, z2, z3, z4, z5, z6, z7, z8, z9, z10, z11, z12, z13, z14] at h1
  have hj : j % 4 = 0 := by omega
  rw [ho] at hS5
  have hb0 := ((((expS key j).1 ++ zs (160 - 4 * j)).drop (12 + 4 * j)).take 4 |>.getD (Int.toNat 0) 0).toNat_lt
  have hb1 := ((((expS key j).1 ++ zs (160 - 4 * j)).drop (12 + 4 * j)).take 4 |>.getD (Int.toNat 1) 0).toNat_lt
  have hb2 := ((((expS key j).1 ++ zs (160 - 4 * j)).drop (12 + 4 * j)).take 4 |>.getD (Int.toNat 2) 0).toNat_lt
  have hb3 := ((((expS key j).1 ++ zs (160 - 4 * j)).drop (12 + 4 * j)).take 4 |>.getD (Int.toNat 3) 0).toNat_lt
  refine AW.seq ?_
  refine AW.drawK [] 38 rfl (by kernel_rfl) ?_
  refine SeqK.q rfl (q_move (v := .pointer _) rfl) ?_
  refine SeqK.q rfl (q_nilCheck rfl) ?_
  refine SeqK.q rfl (q_fieldTo (sz := 0) 0 Tryz.underlying167 rfl rfl (by kernel_rfl) rfl) ?_
  refine SeqK.q rfl (q_load (v := .pointer _) (by kernel_rfl) rfl (hS5.blk at1) rfl) ?_
  refine SeqK.q rfl (q_indexAddrA0 Tryz.underlying168 (by kernel_rfl) rfl rfl (by omega) (by omega)) ?_
  refine SeqK.q rfl (q_loadB (by kernel_rfl) rfl (hS5.blk at0) (by simp only [nums_length, List.length_set, List.length_replicate, List.length_take, List.length_drop, List.length_append, List.length_cons, List.length_nil, ofB_length, toB_length]; omega)) ?_
  refine SeqK.q rfl (q_nilCheck rfl) ?_
  refine SeqK.q rfl (q_indexAddrA0 Tryz.underlying173 (by kernel_rfl) rfl rfl (by omega) (by omega)) ?_
  refine SeqK.q rfl (q_loadB (by kernel_rfl) rfl (hS5.blk at2) (by omega)) ?_
  refine SeqK.q rfl (q_move (v := .int _ _) rfl) ?_
  refine SeqK.q rfl (q_xorB rfl rfl) ?_
  refine SeqK.q rfl (q_move (v := .pointer _) rfl) ?_
  refine SeqK.q rfl (q_nilCheck rfl) ?_
  refine SeqK.q rfl (q_fieldTo (sz := 0) 0 Tryz.underlying167 rfl rfl (by kernel_rfl) rfl) ?_
  refine SeqK.q rfl (q_load (v := .pointer _) (by kernel_rfl) rfl (hS5.blk at1) rfl) ?_
  refine SeqK.q rfl (q_indexAddrA0 Tryz.underlying168 (by kernel_rfl) rfl rfl (by omega) (by omega)) ?_
  refine SeqK.q rfl (q_loadB (by kernel_rfl) rfl (hS5.blk at0) (by simp only [nums_length, List.length_set, List.length_replicate, List.length_take, List.length_drop, List.length_append, List.length_cons, List.length_nil, ofB_length, toB_length]; omega)) ?_
  refine SeqK.q rfl (q_nilCheck rfl) ?_
  refine SeqK.q rfl (q_indexAddrA0 Tryz.underlying173 (by kernel_rfl) rfl rfl (by omega) (by omega)) ?_
  refine SeqK.q rfl (q_loadB (by kernel_rfl) rfl (hS5.blk at2) (by omega)) ?_
  refine SeqK.q rfl (q_move (v := .pointer _) rfl) ?_
  refine SeqK.q rfl (q_nilCheck rfl) ?_
  refine SeqK.q rfl (q_fieldTo (sz := 0) 0 Tryz.underlying167 rfl rfl (by kernel_rfl) rfl) ?_
  refine SeqK.q rfl (q_load (v := .pointer _) (by kernel_rfl) rfl (hS5.blk at1) rfl) ?_
  refine SeqK.q rfl (q_indexAddrA0 Tryz.underlying168 (by kernel_rfl) rfl rfl (by omega) (by omega)) ?_
  refine SeqK.q rfl (q_loadB (by kernel_rfl) rfl (hS5.blk at0) (by simp only [nums_length, List.length_set, List.length_replicate, List.length_take, List.length_drop, List.length_append, List.length_cons, List.length_nil, ofB_length, toB_length]; omega)) ?_
  refine SeqK.q rfl (q_nilCheck rfl) ?_
  refine SeqK.q rfl (q_indexAddrA0 Tryz.underlying173 (by kernel_rfl) rfl rfl (by omega) (by omega)) ?_
  refine SeqK.q rfl (q_loadB (by kernel_rfl) rfl (hS5.blk at2) (by omega)) ?_
  refine SeqK.q rfl (q_move (v := .pointer _) rfl) ?_
  refine SeqK.q rfl (q_nilCheck rfl) ?_
  refine SeqK.q rfl (q_fieldTo (sz := 0) 0 Tryz.underlying167 rfl rfl (by kernel_rfl) rfl) ?_
  refine SeqK.q rfl (q_load (v := .pointer _) (by kernel_rfl) rfl (hS5.blk at1) rfl) ?_
  refine SeqK.q rfl (q_indexAddrA0 Tryz.underlying168 (by kernel_rfl) rfl rfl (by omega) (by omega)) ?_
  refine SeqK.q rfl (q_loadB (by kernel_rfl) rfl (hS5.blk at0) (by simp only [nums_length, List.length_set, List.length_replicate, List.length_take, List.length_drop, List.length_append, List.length_cons, List.length_nil, ofB_length, toB_length]; omega)) ?_
  refine SeqK.q rfl (q_nilCheck rfl) ?_
  refine SeqK.q rfl (q_indexAddrA0 Tryz.underlying173 (by kernel_rfl) rfl rfl (by omega) (by omega)) ?_
  refine SeqK.q rfl (q_loadB (by kernel_rfl) rfl (hS5.blk at2) (by omega)) ?_
  refine SeqK.done ?_
  refine OpsW.q rfl (q_buildN (k := .u8) [_, _, _, _] rfl (by kernel_rfl)) ?_
  refine OpsW.ms (s_storeA (n := 4) (k := .u8) hS5 at0 (by kernel_rfl) rfl rfl (by simp; done) (by simp only [nums_length, List.length_set, List.length_replicate, List.length_take, List.length_drop, List.length_append, List.length_cons, List.length_nil, ofB_length, toB_length]; omega)) ?_
  rintro _ H6 ⟨rfl, hS6⟩
  clear hS5
  refine OpsW.nil ?_
  refine SeqP.go ?_
  refine AW.region ?_
  refine OpsW.q rfl (q_move (v := .int _ _) rfl) ?_
  refine OpsW.q rfl (o_call rfl Tryz.func128 rfl rfl (twiceB_con _)) ?_
  refine OpsW.q rfl (q_assign (v := .int _ _) rfl) ?_
  refine OpsW.nil ?_
  refine SeqP.go ?_
  refine AW.seq ?_
  refine AW.region ?_
  refine OpsW.q rfl (q_move (v := .int _ _) rfl) ?_
  refine OpsW.nil ?_
  refine SeqP.go ?_
  refine AW.block ?_
  refine AW.loop (fun m_ e_ H_ => ∃ (k : Nat) (e0 : Env), m_ = 4 - k ∧ (k ≤ 4) ∧ e_ = upds e0 [(3, .pointer (some ⟨b10, 0, none⟩)), (4, BV (expS key (j + 1)).2), (5, .int .i64 ((16 + 4 * j : Nat) : Int)), (6, .pointer (some ⟨b6, 0, none⟩)), (74, .int .i64 (k : Int))] ∧ Sep H [.blk b6 ⟨nums .u8 ((ofB (lastW (expS key j).1 j (expS key j).2))), 4, 168⟩, .blk b10 ⟨(.pointer (some ⟨b8, 0, none⟩) :: nums .u8 (ofB (extK (expS key j).1 (lastW (expS key j).1 j (expS key j).2) k ++ zs (160 - 4 * j - k)))), 177, 167⟩, .blk b8 ⟨nums .u8 ((ofB sbox)), 256, 173⟩] H_) _ ⟨0, _, rfl, (by omega), Slots.eq ⟨(by rfl), (by first | (rw [expS_x_yes hj]; rfl) | (rw [expS_x_no hj]; rfl)), (by rfl), (by rfl), (by rfl),  trivial⟩, (by rw [← last_yes (m := 160 - 4 * j) (o := 12 + 4 * j) (by omega) hj, extK_zero, Nat.sub_zero]; exact hS6)⟩ ?_
  rintro m_ _ Hl1 ⟨k, e0, rfl, hf, rfl, hSl1⟩
  try clear hS6
  have hlw := lastW_length (expS key j).1 j (expS key j).2
  have hek := extK_length (expS key j).1 (lastW (expS key j).1 j (expS key j).2) k
  have hz2 := zs_length (160 - 4 * j - k)
  have hll : (extK (expS key j).1 (lastW (expS key j).1 j (expS key j).2) k ++ zs (160 - 4 * j - k)).length = 176 := by rw [List.length_append]; omega
  refine AW.seq ?_
  refine AW.region ?_
  refine OpsW.q rfl (q_lss rfl rfl) ?_
  refine OpsW.nil ?_
  refine SeqP.go ?_
  refine AW.seq ?_
  refine AW.cond2 rfl (fun h2 => ?_) (fun h2 => ?_)
  ·
   try simp only [z1, z2, z3, z4, z5, z6, z7, z8, z9, z10, z11, z12, z13, z14] at h2
   refine AW.exit ?_
   refine SeqP.exit ?_
   refine LoopP.exit ?_
   obtain rfl : k = 4 := by omega
   refine BlockP.here ?_
   refine BlockP.go ?_
   refine SeqP.go ?_
   refine AW.region ?_
   refine OpsW.q rfl (q_move (v := .int _ _) rfl) ?_
   refine OpsW.q rfl (q_addI rfl rfl (by omega)) ?_
   refine OpsW.q rfl (q_assign (v := .int _ _) rfl) ?_
   refine OpsW.nil ?_
   replace hSl1 := hSl1.del del0
   exact LoopP.go _ (by omega) ⟨j + 1, _, rfl, (by omega), Slots.eq ⟨(by rfl), (by rfl), (by rfl),  trivial⟩, (by rw [expS_next, show 160 - 4 * (j + 1) = 160 - 4 * j - 4 from by omega]; exact hSl1)⟩
  try simp only [z1, z2, z3, z4, z5, z6, z7, z8, z9, z10, z11, z12, z13, z14] at h2
  refine AW.skip ?_
  refine SeqP.go ?_
  refine AW.seq ?_
  refine AW.block ?_
  refine AW.seq ?_
  refine AW.region ?_
  refine OpsW.q rfl (q_move (v := .int _ _) rfl) ?_
  refine OpsW.q rfl (q_assign (v := .int _ _) rfl) ?_
  refine OpsW.nil ?_
  refine SeqP.go ?_
  refine AW.drawK [] 19 rfl (by kernel_rfl) ?_
  refine SeqK.q rfl (q_move (v := .pointer _) rfl) ?_
  refine SeqK.q rfl (q_move (v := .int _ _) rfl) ?_
  refine SeqK.q rfl (q_move (v := .int _ _) rfl) ?_
  refine SeqK.q rfl (q_addI rfl rfl (by omega)) ?_
  refine SeqK.q rfl (q_move (v := .pointer _) rfl) ?_
  refine SeqK.q rfl (q_move (v := .int _ _) rfl) ?_
  refine SeqK.q rfl (q_move (v := .int _ _) rfl) ?_
  refine SeqK.q rfl (q_addI rfl rfl (by omega)) ?_
  refine SeqK.q rfl (q_subI rfl rfl (by omega)) ?_
  refine SeqK.q rfl (q_nilCheck rfl) ?_
  refine SeqK.q rfl (q_fieldTo (sz := 175) 1 Tryz.underlying167 rfl rfl (by kernel_rfl) rfl) ?_
  refine SeqK.q rfl (q_indexAddrA (sz := 1) Tryz.underlying165 (by kernel_rfl) rfl rfl (by omega) (by omega)) ?_
  refine SeqK.q rfl (q_loadTB1 (by kernel_rfl) rfl (hSl1.blk at1) (by omega)) ?_
  refine SeqK.q rfl (q_move (v := .int _ _) rfl) ?_
  refine SeqK.q rfl (q_indexAddrA0 Tryz.underlying168 (by kernel_rfl) rfl rfl (by omega) (by omega)) ?_
  refine SeqK.q rfl (q_loadB (by kernel_rfl) rfl (hSl1.blk at0) (by omega)) ?_
  refine SeqK.q rfl (q_xorB rfl rfl) ?_
  refine SeqK.q rfl (q_nilCheck rfl) ?_
  refine SeqK.q rfl (q_fieldTo (sz := 175) 1 Tryz.underlying167 rfl rfl (by kernel_rfl) rfl) ?_
  refine SeqK.done ?_
  refine OpsW.q rfl (q_indexAddrA (sz := 1) Tryz.underlying165 (by kernel_rfl) rfl rfl (by omega) (by omega)) ?_
  refine OpsW.ms (s_storeTB1 hSl1 at1 (by kernel_rfl) rfl rfl (by omega)) ?_
  rintro _ H7 ⟨rfl, hS7⟩
  clear hSl1
  refine OpsW.nil ?_
  refine BlockP.go ?_
  refine SeqP.go ?_
  refine AW.region ?_
  refine OpsW.q rfl (q_addI rfl rfl (by omega)) ?_
  refine OpsW.q rfl (q_move (v := .int _ _) rfl) ?_
  refine OpsW.nil ?_
  exact LoopP.go _ (by omega) ⟨k + 1, _, rfl, (by omega), Slots.eq ⟨(by rfl), (by rfl), (by rfl), (by rfl), (by rfl),  trivial⟩, (by rw [← ext_step (by omega) (by omega) (by omega)]; have hq := hS7; rw [show (((16 + 4 * j : Nat) : Int) + (k : Int)).toNat = (expS key j).1.length + k from by omega, show (((16 + 4 * j : Nat) : Int) + (k : Int) - 16).toNat = (expS key j).1.length + k - 16 from by omega, Int.toNat_natCast] at hq; exact hq)⟩
 try simp only [z1, z2, z3, z4, z5, z6, z7, z8, z9, z10, z11, z12, z13, z14] at h1
 have hj : ¬ j % 4 = 0 := by omega
 rw [ho] at hS5
 refine AW.skip ?_
 refine SeqP.go ?_
 refine AW.seq ?_
 refine AW.region ?_
 refine OpsW.q rfl (q_move (v := .int _ _) rfl) ?_
 refine OpsW.nil ?_
 refine SeqP.go ?_
 refine AW.block ?_
 refine AW.loop (fun m_ e_ H_ => ∃ (k : Nat) (e0 : Env), m_ = 4 - k ∧ (k ≤ 4) ∧ e_ = upds e0 [(3, .pointer (some ⟨b10, 0, none⟩)), (4, BV (expS key (j + 1)).2), (5, .int .i64 ((16 + 4 * j : Nat) : Int)), (6, .pointer (some ⟨b6, 0, none⟩)), (74, .int .i64 (k : Int))] ∧ Sep H [.blk b6 ⟨nums .u8 ((ofB (lastW (expS key j).1 j (expS key j).2))), 4, 168⟩, .blk b10 ⟨(.pointer (some ⟨b8, 0, none⟩) :: nums .u8 (ofB (extK (expS key j).1 (lastW (expS key j).1 j (expS key j).2) k ++ zs (160 - 4 * j - k)))), 177, 167⟩, .blk b8 ⟨nums .u8 ((ofB sbox)), 256, 173⟩] H_) _ ⟨0, _, rfl, (by omega), Slots.eq ⟨(by rfl), (by first | (rw [expS_x_yes hj]; rfl) | (rw [expS_x_no hj]; rfl)), (by rfl), (by rfl), (by rfl),  trivial⟩, (by rw [← last_no (m := 160 - 4 * j) (o := 12 + 4 * j) (by omega) hj, extK_zero, Nat.sub_zero]; exact hS5)⟩ ?_
 rintro m_ _ Hl1 ⟨k, e0, rfl, hf, rfl, hSl1⟩
 try clear hS5
 have hlw := lastW_length (expS key j).1 j (expS key j).2
 have hek := extK_length (expS key j).1 (lastW (expS key j).1 j (expS key j).2) k
 have hz2 := zs_length (160 - 4 * j - k)
 have hll : (extK (expS key j).1 (lastW (expS key j).1 j (expS key j).2) k ++ zs (160 - 4 * j - k)).length = 176 := by rw [List.length_append]; omega
 refine AW.seq ?_
 refine AW.region ?_
 refine OpsW.q rfl (q_lss rfl rfl) ?_
 refine OpsW.nil ?_
 refine SeqP.go ?_
 refine AW.seq ?_
 refine AW.cond2 rfl (fun h2 => ?_) (fun h2 => ?_)
 ·
  try simp only [z1, z2, z3, z4, z5, z6, z7, z8, z9, z10, z11, z12, z13, z14] at h2
  refine AW.exit ?_
  refine SeqP.exit ?_
  refine LoopP.exit ?_
  obtain rfl : k = 4 := by omega
  refine BlockP.here ?_
  refine BlockP.go ?_
  refine SeqP.go ?_
  refine AW.region ?_
  refine OpsW.q rfl (q_move (v := .int _ _) rfl) ?_
  refine OpsW.q rfl (q_addI rfl rfl (by omega)) ?_
  refine OpsW.q rfl (q_assign (v := .int _ _) rfl) ?_
  refine OpsW.nil ?_
  replace hSl1 := hSl1.del del0
  exact LoopP.go _ (by omega) ⟨j + 1, _, rfl, (by omega), Slots.eq ⟨(by rfl), (by rfl), (by rfl),  trivial⟩, (by rw [expS_next, show 160 - 4 * (j + 1) = 160 - 4 * j - 4 from by omega]; exact hSl1)⟩
 try simp only [z1, z2, z3, z4, z5, z6, z7, z8, z9, z10, z11, z12, z13, z14] at h2
 refine AW.skip ?_
 refine SeqP.go ?_
 refine AW.seq ?_
 refine AW.block ?_
 refine AW.seq ?_
 refine AW.region ?_
 refine OpsW.q rfl (q_move (v := .int _ _) rfl) ?_
 refine OpsW.q rfl (q_assign (v := .int _ _) rfl) ?_
 refine OpsW.nil ?_
 refine SeqP.go ?_
 refine AW.drawK [] 19 rfl (by kernel_rfl) ?_
 refine SeqK.q rfl (q_move (v := .pointer _) rfl) ?_
 refine SeqK.q rfl (q_move (v := .int _ _) rfl) ?_
 refine SeqK.q rfl (q_move (v := .int _ _) rfl) ?_
 refine SeqK.q rfl (q_addI rfl rfl (by omega)) ?_
 refine SeqK.q rfl (q_move (v := .pointer _) rfl) ?_
 refine SeqK.q rfl (q_move (v := .int _ _) rfl) ?_
 refine SeqK.q rfl (q_move (v := .int _ _) rfl) ?_
 refine SeqK.q rfl (q_addI rfl rfl (by omega)) ?_
 refine SeqK.q rfl (q_subI rfl rfl (by omega)) ?_
 refine SeqK.q rfl (q_nilCheck rfl) ?_
 refine SeqK.q rfl (q_fieldTo (sz := 175) 1 Tryz.underlying167 rfl rfl (by kernel_rfl) rfl) ?_
 refine SeqK.q rfl (q_indexAddrA (sz := 1) Tryz.underlying165 (by kernel_rfl) rfl rfl (by omega) (by omega)) ?_
 refine SeqK.q rfl (q_loadTB1 (by kernel_rfl) rfl (hSl1.blk at1) (by omega)) ?_
 refine SeqK.q rfl (q_move (v := .int _ _) rfl) ?_
 refine SeqK.q rfl (q_indexAddrA0 Tryz.underlying168 (by kernel_rfl) rfl rfl (by omega) (by omega)) ?_
 refine SeqK.q rfl (q_loadB (by kernel_rfl) rfl (hSl1.blk at0) (by omega)) ?_
 refine SeqK.q rfl (q_xorB rfl rfl) ?_
 refine SeqK.q rfl (q_nilCheck rfl) ?_
 refine SeqK.q rfl (q_fieldTo (sz := 175) 1 Tryz.underlying167 rfl rfl (by kernel_rfl) rfl) ?_
 refine SeqK.done ?_
 refine OpsW.q rfl (q_indexAddrA (sz := 1) Tryz.underlying165 (by kernel_rfl) rfl rfl (by omega) (by omega)) ?_
 refine OpsW.ms (s_storeTB1 hSl1 at1 (by kernel_rfl) rfl rfl (by omega)) ?_
 rintro _ H8 ⟨rfl, hS8⟩
 clear hSl1
 refine OpsW.nil ?_
 refine BlockP.go ?_
 refine SeqP.go ?_
 refine AW.region ?_
 refine OpsW.q rfl (q_addI rfl rfl (by omega)) ?_
 refine OpsW.q rfl (q_move (v := .int _ _) rfl) ?_
 refine OpsW.nil ?_
 exact LoopP.go _ (by omega) ⟨k + 1, _, rfl, (by omega), Slots.eq ⟨(by rfl), (by rfl), (by rfl), (by rfl), (by rfl),  trivial⟩, (by rw [← ext_step (by omega) (by omega) (by omega)]; have hq := hS8; rw [show (((16 + 4 * j : Nat) : Int) + (k : Int)).toNat = (expS key j).1.length + k from by omega, show (((16 + 4 * j : Nat) : Int) + (k : Int) - 16).toNat = (expS key j).1.length + k - 16 from by omega, Int.toNat_natCast] at hq; exact hq)⟩
theorem block_con {bc bt : Nat} {ks s : List UInt8} (hc : H bc = some ⟨.pointer (some ⟨bt, 0, none⟩) :: nums .u8 (ofB ks), 177, 167⟩) (ht : H bt = some ⟨nums .u8 (ofB sbox), 256, 173⟩) (hk : ks.length = 176) (hs : s.length = 16) : Con Tryz.prog w0 117 #[.pointer (some ⟨bc, 0, none⟩), .agg (nums .u8 (ofB s)).toArray] H (fun v H' => v = .agg (nums .u8 (ofB (stA ks s 10))).toArray ∧ H' = H) := by
 have hS0 : Sep H [] H := Sep.refl
 refine Con.intro Tryz.func117 rfl rfl ?_
 refine AW.seq ?_
 refine AW.region ?_
 refine OpsW.m rfl (s_boxN (k := .u8) hS0 rfl) ?_
 rintro _ H1 ⟨b3, rfl, hS1⟩
 clear hS0
 refine OpsW.m rfl (s_allocB 16 hS1 (by kernel_rfl)) ?_
 rintro _ H2 ⟨b4, rfl, hS2⟩
 clear hS1
 refine OpsW.nil ?_
 refine SeqP.go ?_
 refine AW.seq ?_
 refine AW.region ?_
 refine OpsW.q rfl (q_move (v := .pointer _) rfl) ?_
 obtain ⟨Hf3, le3, hA3, hB3⟩ := hS2.framed at1
 refine OpsW.m rfl (o_call rfl Tryz.func129 rfl rfl (with_con hA3 (le3 _ _ hc) hk hs (r := 0) (by omega))) ?_
 rintro _ H3 ⟨rfl, hR3⟩
 have hS3 := hB3 _ _ hR3
 clear hR3 hB3 hA3
 clear hS2
 refine OpsW.nil ?_
 refine SeqP.go ?_
 refine AW.seq ?_
 refine AW.seq ?_
 refine AW.region ?_
 refine OpsW.q rfl (q_assign (v := .int _ _) rfl) ?_
 refine OpsW.nil ?_
 refine SeqP.go ?_
 refine AW.block ?_
 refine AW.loop (fun m_ e_ H_ => ∃ (n : Nat) (e0 : Env), m_ = 10 - n ∧ (n ≤ 10) ∧ e_ = upds e0 [(0, .pointer (some ⟨bc, 0, none⟩)), (3, .pointer (some ⟨b3, 0, none⟩)), (4, .pointer (some ⟨b4, 0, none⟩)), (5, .int .i64 ((n + 1 : Nat) : Int))] ∧ Sep H [.blk b4 ⟨nums .u8 ((ofB (List.replicate 16 0))), 16, 144⟩, .blk b3 ⟨nums .u8 ((ofB (stA ks s n))), 16, 144⟩] H_) _ ⟨0, _, rfl, (by omega), Slots.eq ⟨(by rfl), (by rfl), (by rfl), (by rfl),  trivial⟩, (by rw [stA_zero]; have hq := hS3; rw [ofB_length, hs] at hq; exact hq)⟩ ?_
 rintro m_ _ Hl0 ⟨n, e0, rfl, hf, rfl, hSl0⟩
 try clear hS3
 have hsl := stA_length ks s n
 refine AW.seq ?_
 refine AW.seq ?_
 refine AW.region ?_
 refine OpsW.q rfl (q_move (v := .int _ _) rfl) ?_
 refine OpsW.q rfl (q_leq rfl rfl) ?_
 refine OpsW.nil ?_
 refine SeqP.go ?_
 refine AW.cond2 rfl (fun h0 => ?_) (fun h0 => ?_)
 ·
  try simp only [z1, z2, z3, z4, z5, z6, z7, z8, z9, z10, z11, z12, z13, z14] at h0
  refine AW.exit ?_
  refine SeqP.exit ?_
  refine LoopP.exit ?_
  obtain rfl : n = 10 := by omega
  refine BlockP.here ?_
  refine SeqP.go ?_
  refine AW.seq ?_
  refine AW.region ?_
  refine OpsW.q rfl (q_loadAN (n := 16) (k := .u8) (by kernel_rfl) rfl (hSl0.blk at1) (by simp only [nums_length, List.length_set, List.length_replicate, List.length_take, List.length_drop, List.length_append, List.length_cons, List.length_nil, ofB_length, toB_length]; omega)) ?_
  refine OpsW.ms (s_storeA (n := 16) (k := .u8) hSl0 at0 (by kernel_rfl) rfl rfl (by simp only [nums_length, List.length_set, List.length_replicate, List.length_take, List.length_drop, List.length_append, List.length_cons, List.length_nil, ofB_length, toB_length]; omega) (by rfl)) ?_
  rintro _ H4 ⟨rfl, hS4⟩
  clear hSl0
  refine OpsW.nil ?_
  refine SeqP.go ?_
  refine AW.ret ?_
  refine RetP.mkc (m := 16) (H' := H) rfl rfl (hS4.blk at0) (by simp only [nums_length, List.length_set, List.length_replicate, List.length_take, List.length_drop, List.length_append, List.length_cons, List.length_nil, ofB_length, toB_length]; omega) (by kernel_rfl) hS4.le ?_
  exact ⟨rfl, rfl⟩
 try simp only [z1, z2, z3, z4, z5, z6, z7, z8, z9, z10, z11, z12, z13, z14] at h0
 refine AW.skip ?_
 refine SeqP.go ?_
 refine AW.seq ?_
 refine AW.block ?_
 refine AW.seq ?_
 refine AW.region ?_
 refine OpsW.m rfl (s_allocB 16 hSl0 (by kernel_rfl)) ?_
 rintro _ H5 ⟨b6, rfl, hS5⟩
 clear hSl0
 refine OpsW.nil ?_
 refine SeqP.go ?_
 refine AW.seq ?_
 refine AW.seq ?_
 refine AW.region ?_
 refine OpsW.q rfl (q_move (v := .int _ _) rfl) ?_
 refine OpsW.nil ?_
 refine SeqP.go ?_
 refine AW.block ?_
 refine AW.loop (fun m_ e_ H_ => ∃ (i : Nat) (e0 : Env), m_ = 16 - i ∧ (i ≤ 16) ∧ e_ = upds e0 [(0, .pointer (some ⟨bc, 0, none⟩)), (3, .pointer (some ⟨b3, 0, none⟩)), (4, .pointer (some ⟨b4, 0, none⟩)), (5, .int .i64 ((n + 1 : Nat) : Int)), (6, .pointer (some ⟨b6, 0, none⟩)), (15, .int .i64 (i : Int))] ∧ Sep H [.blk b6 ⟨nums .u8 ((ofB (subA (stA ks s n) i ++ List.replicate (16 - i) 0))), 16, 144⟩, .blk b4 ⟨nums .u8 ((ofB (List.replicate 16 0))), 16, 144⟩, .blk b3 ⟨nums .u8 ((ofB (stA ks s n))), 16, 144⟩] H_) _ ⟨0, _, rfl, (by omega), Slots.eq ⟨(by rfl), (by rfl), (by rfl), (by rfl), (by rfl), (by rfl),  trivial⟩, (by rw [subA_zero]; exact hS5)⟩ ?_
 rintro m_ _ Hl1 ⟨i, e0, rfl, hf, rfl, hSl1⟩
 try clear hS5
 have hsu := subA_length (stA ks s n) i
 have hsr : (subA (stA ks s n) i ++ List.replicate (16 - i) 0).length = 16 := by rw [List.length_append, List.length_replicate]; omega
 have hsb := sbox_length
 have hb := ((stA ks s n).getD (5 * (i : Int) % 16).toNat 0).toNat_lt
 refine AW.seq ?_
 refine AW.region ?_
 refine OpsW.q rfl (q_lss rfl rfl) ?_
 refine OpsW.nil ?_
 refine SeqP.go ?_
 refine AW.seq ?_
 refine AW.cond2 rfl (fun h1 => ?_) (fun h1 => ?_)
 ·
  try simp only [z1, z2, z3, z4, z5, z6, z7, z8, z9, z10, z11, z12, z13, z14] at h1
  refine AW.exit ?_
  refine SeqP.exit ?_
  refine LoopP.exit ?_
  obtain rfl : i = 16 := by omega
  rw [Nat.sub_self, List.replicate_zero, List.append_nil] at hSl1
  have hrl := subA_length (stA ks s n) 16
  refine BlockP.here ?_
  refine SeqP.go ?_
  refine AW.seq ?_
  refine AW.seq ?_
  refine AW.region ?_
  refine OpsW.q rfl (q_move (v := .int _ _) rfl) ?_
  refine OpsW.q rfl (q_lss rfl rfl) ?_
  refine OpsW.nil ?_
  refine SeqP.go ?_
  refine AW.cond rfl (fun h2 => ?_) (fun h2 => ?_)
  ·
   try simp only [z1, z2, z3, z4, z5, z6, z7, z8, z9, z10, z11, z12, z13, z14] at h2
   refine AW.seq ?_
   refine AW.region ?_
   refine OpsW.q rfl (q_assign (v := .int _ _) rfl) ?_
   refine OpsW.nil ?_
   refine SeqP.go ?_
   refine AW.block ?_
   refine AW.loop (fun m_ e_ H_ => ∃ (c : Nat) (e0 : Env), m_ = 4 - c ∧ (c ≤ 4) ∧ e_ = upds e0 [(0, .pointer (some ⟨bc, 0, none⟩)), (3, .pointer (some ⟨b3, 0, none⟩)), (4, .pointer (some ⟨b4, 0, none⟩)), (5, .int .i64 ((n + 1 : Nat) : Int)), (6, .pointer (some ⟨b6, 0, none⟩)), (8, .int .i64 ((4 * c : Nat) : Int))] ∧ Sep H [.blk b6 ⟨nums .u8 ((ofB (mixK (subA (stA ks s n) 16) c ++ (subA (stA ks s n) 16).drop (4 * c)))), 16, 144⟩, .blk b4 ⟨nums .u8 ((ofB (List.replicate 16 0))), 16, 144⟩, .blk b3 ⟨nums .u8 ((ofB (stA ks s n))), 16, 144⟩] H_) _ ⟨0, _, rfl, (by omega), Slots.eq ⟨(by rfl), (by rfl), (by rfl), (by rfl), (by rfl), (by rfl),  trivial⟩, (by rw [mix_none]; exact hSl1)⟩ ?_
   rintro m_ _ Hl2 ⟨c, e0, rfl, hf, rfl, hSl2⟩
   try clear hSl1
   have hs2 := subA_length (stA ks s n) 16
   have hmk := mixK_length (subA (stA ks s n) 16) c
   have hml : (mixK (subA (stA ks s n) 16) c ++ (subA (stA ks s n) 16).drop (4 * c)).length = 16 := by rw [List.length_append, List.length_drop]; omega
   refine AW.seq ?_
   refine AW.seq ?_
   refine AW.region ?_
   refine OpsW.q rfl (q_move (v := .int _ _) rfl) ?_
   refine OpsW.q rfl (q_lss rfl rfl) ?_
   refine OpsW.nil ?_
   refine SeqP.go ?_
   refine AW.cond2 rfl (fun h3 => ?_) (fun h3 => ?_)
   ·
    try simp only [z1, z2, z3, z4, z5, z6, z7, z8, z9, z10, z11, z12, z13, z14] at h3
    refine AW.exit ?_
    refine SeqP.exit ?_
    refine LoopP.exit ?_
    obtain rfl : c = 4 := by omega
    rw [mix_all hs2] at hSl2
    replace hrl := mixK_length (subA (stA ks s n) 16) 4
    refine BlockP.here ?_
    refine SeqP.go ?_
    refine AW.seq ?_
    refine AW.region ?_
    refine OpsW.q rfl (q_loadAN (n := 16) (k := .u8) (by kernel_rfl) rfl (hSl2.blk at0) (by simp only [nums_length, List.length_set, List.length_replicate, List.length_take, List.length_drop, List.length_append, List.length_cons, List.length_nil, ofB_length, toB_length]; omega)) ?_
    refine OpsW.ms (s_storeA (n := 16) (k := .u8) hSl2 at2 (by kernel_rfl) rfl rfl (by simp only [nums_length, List.length_set, List.length_replicate, List.length_take, List.length_drop, List.length_append, List.length_cons, List.length_nil, ofB_length, toB_length]; omega) (by simp only [nums_length, List.length_set, List.length_replicate, List.length_take, List.length_drop, List.length_append, List.length_cons, List.length_nil, ofB_length, toB_length]; omega)) ?_
    rintro _ H6 ⟨rfl, hS6⟩
    clear hSl2
    refine OpsW.nil ?_
    refine SeqP.go ?_
    refine AW.region ?_
    refine OpsW.q rfl (q_move (v := .pointer _) rfl) ?_
    refine OpsW.q rfl (q_move (v := .int _ _) rfl) ?_
    obtain ⟨Hf7, le7, hA7, hB7⟩ := hS6.framed at2
    refine OpsW.m rfl (o_call rfl Tryz.func129 rfl rfl (with_con hA7 (le7 _ _ hc) hk hrl (r := n + 1) (by omega))) ?_
    rintro _ H7 ⟨rfl, hR7⟩
    have hS7 := hB7 _ _ hR7
    clear hR7 hB7 hA7
    clear hS6
    refine OpsW.nil ?_
    refine BlockP.go ?_
    refine SeqP.go ?_
    refine AW.region ?_
    refine OpsW.q rfl (q_move (v := .int _ _) rfl) ?_
    refine OpsW.q rfl (q_addI rfl rfl (by omega)) ?_
    refine OpsW.q rfl (q_assign (v := .int _ _) rfl) ?_
    refine OpsW.nil ?_
    replace hS7 := hS7.del del0
    exact LoopP.go _ (by omega) ⟨n + 1, _, rfl, (by omega), Slots.eq ⟨(by rfl), (by rfl), (by rfl), (by rfl),  trivial⟩, (by rw [stA_succ, roundA, if_pos (by omega)]; exact hS7)⟩
   try simp only [z1, z2, z3, z4, z5, z6, z7, z8, z9, z10, z11, z12, z13, z14] at h3
   refine AW.skip ?_
   refine SeqP.go ?_
   refine AW.seq ?_
   refine AW.block ?_
   refine AW.region ?_
   refine OpsW.q rfl (q_move (v := .int _ _) rfl) ?_
   refine OpsW.q rfl (q_move (v := .int _ _) rfl) ?_
   refine OpsW.q rfl (q_addI rfl rfl (by omega)) ?_
   refine OpsW.q rfl (q_sliceArr (sz := 1) Tryz.underlying144 (by kernel_rfl) rfl rfl rfl (by omega) (by omega) (by omega) (by omega)) ?_
   obtain ⟨Hf8, le8, hA8, hB8⟩ := hSl2.framed at0
   refine OpsW.m rfl (o_call rfl Tryz.func130 rfl rfl (mixed_con hA8 (by omega) (by omega))) ?_
   rintro _ H8 ⟨rfl, hR8⟩
   have hS8 := hB8 _ _ hR8
   clear hR8 hB8 hA8
   clear hSl2
   refine OpsW.nil ?_
   refine BlockP.go ?_
   refine SeqP.go ?_
   refine AW.region ?_
   refine OpsW.q rfl (q_move (v := .int _ _) rfl) ?_
   refine OpsW.q rfl (q_addI rfl rfl (by omega)) ?_
   refine OpsW.q rfl (q_assign (v := .int _ _) rfl) ?_
   refine OpsW.nil ?_
   exact LoopP.go _ (by omega) ⟨c + 1, _, rfl, (by omega), Slots.eq ⟨(by rfl), (by rfl), (by rfl), (by rfl), (by rfl), (by rfl),  trivial⟩, (by rw [← mix_step hs2 (by omega)]; have hq := hS8; rw [show 0 + ((4 * c : Nat) : Int).toNat * 1 = 4 * c from by omega] at hq; exact hq)⟩
  try simp only [z1, z2, z3, z4, z5, z6, z7, z8, z9, z10, z11, z12, z13, z14] at h2
  refine AW.skip ?_
  refine SeqP.go ?_
  refine AW.seq ?_
  refine AW.region ?_
  refine OpsW.q rfl (q_loadAN (n := 16) (k := .u8) (by kernel_rfl) rfl (hSl1.blk at0) (by simp only [nums_length, List.length_set, List.length_replicate, List.length_take, List.length_drop, List.length_append, List.length_cons, List.length_nil, ofB_length, toB_length]; omega)) ?_
  refine OpsW.ms (s_storeA (n := 16) (k := .u8) hSl1 at2 (by kernel_rfl) rfl rfl (by simp only [nums_length, List.length_set, List.length_replicate, List.length_take, List.length_drop, List.length_append, List.length_cons, List.length_nil, ofB_length, toB_length]; omega) (by simp only [nums_length, List.length_set, List.length_replicate, List.length_take, List.length_drop, List.length_append, List.length_cons, List.length_nil, ofB_length, toB_length]; omega)) ?_
  rintro _ H9 ⟨rfl, hS9⟩
  clear hSl1
  refine OpsW.nil ?_
  refine SeqP.go ?_
  refine AW.region ?_
  refine OpsW.q rfl (q_move (v := .pointer _) rfl) ?_
  refine OpsW.q rfl (q_move (v := .int _ _) rfl) ?_
  obtain ⟨Hf10, le10, hA10, hB10⟩ := hS9.framed at2
  refine OpsW.m rfl (o_call rfl Tryz.func129 rfl rfl (with_con hA10 (le10 _ _ hc) hk hrl (r := n + 1) (by omega))) ?_
  rintro _ H10 ⟨rfl, hR10⟩
  have hS10 := hB10 _ _ hR10
  clear hR10 hB10 hA10
  clear hS9
  refine OpsW.nil ?_
  refine BlockP.go ?_
  refine SeqP.go ?_
  refine AW.region ?_
  refine OpsW.q rfl (q_move (v := .int _ _) rfl) ?_
  refine OpsW.q rfl (q_addI rfl rfl (by omega)) ?_
  refine OpsW.q rfl (q_assign (v := .int _ _) rfl) ?_
  refine OpsW.nil ?_
  replace hS10 := hS10.del del0
  exact LoopP.go _ (by omega) ⟨n + 1, _, rfl, (by omega), Slots.eq ⟨(by rfl), (by rfl), (by rfl), (by rfl),  trivial⟩, (by rw [stA_succ, roundA, if_neg (by omega)]; exact hS10)⟩
 try simp only [z1, z2, z3, z4, z5, z6, z7, z8, z9, z10, z11, z12, z13, z14] at h1
 refine AW.skip ?_
 refine SeqP.go ?_
 refine AW.seq ?_
 refine AW.block ?_
 refine AW.seq ?_
 refine AW.region ?_
 refine OpsW.q rfl (q_move (v := .int _ _) rfl) ?_
 refine OpsW.q rfl (q_assign (v := .int _ _) rfl) ?_
 refine OpsW.nil ?_
 refine SeqP.go ?_
 refine AW.drawK [] 13 rfl (by kernel_rfl) ?_
 refine SeqK.q rfl (q_move (v := .int _ _) rfl) ?_
 refine SeqK.q rfl (q_move (v := .pointer _) rfl) ?_
 refine SeqK.q rfl (q_nilCheck rfl) ?_
 refine SeqK.q rfl (q_fieldTo (sz := 0) 0 Tryz.underlying167 rfl rfl (by kernel_rfl) rfl) ?_
 refine SeqK.q rfl (q_load (v := .pointer _) (by kernel_rfl) rfl (hSl1.old hc) rfl) ?_
 refine SeqK.q rfl (q_move (v := .int _ _) rfl) ?_
 refine SeqK.q rfl (q_mulI rfl rfl (by omega)) ?_
 refine SeqK.q rfl (q_remI rfl rfl (by omega)) ?_
 refine SeqK.q rfl (q_indexAddrA0 Tryz.underlying144 (by kernel_rfl) rfl rfl (by omega) (by omega)) ?_
 refine SeqK.q rfl (q_loadB (by kernel_rfl) rfl (hSl1.blk at2) (by omega)) ?_
 refine SeqK.q rfl (q_nilCheck rfl) ?_
 refine SeqK.q rfl (q_indexAddrA0 Tryz.underlying173 (by kernel_rfl) rfl rfl (by omega) (by omega)) ?_
 refine SeqK.q rfl (q_loadB (by kernel_rfl) rfl (hSl1.old ht) (by omega)) ?_
 refine SeqK.done ?_
 refine OpsW.q rfl (q_indexAddrA0 Tryz.underlying144 (by kernel_rfl) rfl rfl (by omega) (by omega)) ?_
 refine OpsW.ms (s_storeB hSl1 at0 (by kernel_rfl) rfl rfl (by omega)) ?_
 rintro _ H11 ⟨rfl, hS11⟩
 clear hSl1
 refine OpsW.nil ?_
 refine BlockP.go ?_
 refine SeqP.go ?_
 refine AW.region ?_
 refine OpsW.q rfl (q_addI rfl rfl (by omega)) ?_
 refine OpsW.q rfl (q_move (v := .int _ _) rfl) ?_
 refine OpsW.nil ?_
 exact LoopP.go _ (by omega) ⟨i + 1, _, rfl, (by omega), Slots.eq ⟨(by rfl), (by rfl), (by rfl), (by rfl), (by rfl), (by rfl),  trivial⟩, (by rw [← sub_set (by omega), ← sb_get]; have hq := hS11; rw [Int.toNat_natCast, Int.toNat_natCast, show (5 * (i : Int) % 16).toNat = 5 * i % 16 from by omega] at hq; exact hq)⟩
end
end Go.Proofs.YtfpoldogcopmpaaGreatDoor
end
section
namespace Go.Proofs.YtfpoldogcopmpaaGreatDoor
open Go Go.RowKit D
set_option linter.unusedVariables false
set_option linter.unusedSimpArgs false
set_option maxRecDepth 100000
set_option maxHeartbeats 2000000
section
variable {w0 : World} {H : Hp} {H0 : Hp}
theorem blocks_con {vb : Value} {bs : List (List UInt8)} {key : List UInt8} (hVb : Vec H 9 1 vb bs.length (strs bs)) (hm : bs.length ≤ 4294967296) : Con Tryz.prog w0 96 #[S key, vb] H (fun v H' => ∃ u, v = .tuple #[u, .int .i64 (blocksP key bs).2] ∧ Sep H [.vec u 9 1 (blocksP key bs).1.length (strs (blocksP key bs).1)] H') := by
 have hS0 : Sep H [] H := Sep.refl
 refine Con.intro Tryz.func96 rfl rfl ?_
 refine AW.seq ?_
 refine AW.region ?_
 refine OpsW.q rfl (q_assign (v := .slice _ _ _) rfl) ?_
 refine OpsW.q rfl (q_assign (v := .int _ _) rfl) ?_
 refine OpsW.nil ?_
 refine SeqP.go ?_
 refine AW.seq ?_
 refine AW.seq ?_
 refine AW.region ?_
 refine OpsW.q rfl (q_move (v := S _) rfl) ?_
 refine OpsW.q rfl (q_lenS Tryz.underlying9 rfl) ?_
 refine OpsW.q rfl (q_neq rfl rfl) ?_
 refine OpsW.nil ?_
 refine SeqP.go ?_
 refine AW.cond rfl (fun h0 => ?_) (fun h0 => ?_)
 ·
  try simp only [z1, z2, z3, z4, z5, z6, z7, z8, z9, z10, z11, z12, z13, z14] at h0
  rw [blocksP_key bs (by omega)]
  refine AW.seq ?_
  refine AW.region ?_
  refine OpsW.q rfl (q_assign (v := .slice _ _ _) rfl) ?_
  refine OpsW.q rfl (q_assign (v := .int _ _) rfl) ?_
  refine OpsW.nil ?_
  refine SeqP.go ?_
  refine AW.ret ?_
  refine SeqP.ret ?_
  refine RetP.mk2 (H' := H) (v1 := .slice _ _ _) (v2 := .int _ _) rfl rfl rfl  (Hp.le_refl _) ?_
  exact ⟨nilV, rfl, hS0.nil⟩
 try simp only [z1, z2, z3, z4, z5, z6, z7, z8, z9, z10, z11, z12, z13, z14] at h0
 have hk : key.length = 16 := by omega
 refine AW.skip ?_
 refine SeqP.go ?_
 refine AW.seq ?_
 refine AW.region ?_
 refine OpsW.q rfl (q_move (v := S _) rfl) ?_
 refine OpsW.m rfl (o_call rfl Tryz.func116 rfl rfl (ready_con (by omega))) ?_
 rintro _ H1 ⟨bc, bt, rfl, hR1⟩
 have hS1 := hS0.join hR1
 simp only [List.cons_append, List.nil_append] at hS1
 clear hR1 hS0
 refine OpsW.q rfl (q_assign (v := .pointer _) rfl) ?_
 refine OpsW.nil ?_
 refine SeqP.go ?_
 refine AW.seq ?_
 refine AW.region ?_
 refine OpsW.q rfl (q_assign (v := .slice _ _ _) rfl) ?_
 refine OpsW.nil ?_
 refine SeqP.go ?_
 refine AW.seq ?_
 refine AW.seq ?_
 refine AW.region ?_
 refine OpsW.q rfl (q_move (v := vb) rfl) ?_
 refine OpsW.q rfl (q_lenVec Tryz.underlying43 rfl (hVb.le hS1.le)) ?_
 refine OpsW.q rfl (q_move (v := .int _ _) rfl) ?_
 refine OpsW.nil ?_
 refine SeqP.go ?_
 refine AW.block ?_
 replace hS1 := hS1.nil (el := 9) (sz := 1)
 refine AW.loop (fun m_ e_ H_ => ∃ (i : Nat) (vo : Value) (e0 : Env), m_ = bs.length - i ∧ (i ≤ bs.length ∧ ∀ j, j < i → (bs.getD j []).length = 16) ∧ e_ = upds e0 [(6, .pointer (some ⟨bc, 0, none⟩)), (7, vo), (16, vb), (17, .int .i64 (bs.length : Int)), (18, .int .i64 (i : Int))] ∧ Sep H [.vec vo 9 1 i (strs (blkL key bs i)), .blk bc ⟨(.pointer (some ⟨bt, 0, none⟩) :: nums .u8 (ofB (keysL key))), 177, 167⟩, .blk bt ⟨nums .u8 ((ofB sbox)), 256, 173⟩] H_) _ ⟨0, nilV, _, rfl, ⟨by omega, fun j h => by omega⟩, Slots.eq ⟨(by rfl), (by rfl), (by rfl), (by rfl), (by rfl),  trivial⟩, (by rw [blkL_zero]; exact hS1)⟩ ?_
 rintro m_ _ Hl0 ⟨i, vo, e0, rfl, ⟨hf, hg⟩, rfl, hSl0⟩
 try clear hS1
 refine AW.seq ?_
 refine AW.region ?_
 refine OpsW.q rfl (q_lss rfl rfl) ?_
 refine OpsW.nil ?_
 refine SeqP.go ?_
 refine AW.seq ?_
 refine AW.cond2 rfl (fun h1 => ?_) (fun h1 => ?_)
 ·
  try simp only [z1, z2, z3, z4, z5, z6, z7, z8, z9, z10, z11, z12, z13, z14] at h1
  refine AW.exit ?_
  refine SeqP.exit ?_
  refine LoopP.exit ?_
  obtain rfl : i = bs.length := by omega
  refine BlockP.here ?_
  refine SeqP.go ?_
  refine AW.seq ?_
  refine AW.region ?_
  refine OpsW.q rfl (q_move (v := vo) rfl) ?_
  refine OpsW.q rfl (q_assign (v := vo) rfl) ?_
  refine OpsW.q rfl (q_assign (v := .int _ _) rfl) ?_
  refine OpsW.nil ?_
  refine SeqP.go ?_
  refine AW.ret ?_
  refine RetP.mk2 (H' := Hl0) (v1 := vo) (v2 := .int _ _) rfl rfl rfl  (Hp.le_refl _) ?_
  rw [blocksP_ok hk hg]
  have hs := hSl0.del del1
  have hs2 := hs.del del1
  rw [blkL_all] at hs2
  refine ⟨_, rfl, ?_⟩
  rw [show (List.map (blkA key) bs, (0 : Int)).1.length = bs.length from List.length_map _]
  exact hs2
 try simp only [z1, z2, z3, z4, z5, z6, z7, z8, z9, z10, z11, z12, z13, z14] at h1
 refine AW.skip ?_
 refine SeqP.go ?_
 refine AW.seq ?_
 refine AW.block ?_
 refine AW.seq ?_
 refine AW.region ?_
 refine OpsW.q rfl (q_indexV1 (hVb.le hSl0.le) Tryz.underlying43 (by kernel_rfl) rfl rfl (by omega) (by omega)) ?_
 refine OpsW.q rfl (q_loadVS (hVb.le hSl0.le) (by kernel_rfl) rfl (by omega)) ?_
 refine OpsW.q rfl (q_assign (v := S _) rfl) ?_
 refine OpsW.nil ?_
 refine SeqP.go ?_
 refine AW.seq ?_
 refine AW.seq ?_
 refine AW.region ?_
 refine OpsW.q rfl (q_move (v := S _) rfl) ?_
 refine OpsW.q rfl (q_lenS Tryz.underlying9 rfl) ?_
 refine OpsW.q rfl (q_neq rfl rfl) ?_
 refine OpsW.nil ?_
 refine SeqP.go ?_
 refine AW.cond rfl (fun h2 => ?_) (fun h2 => ?_)
 ·
  try simp only [z1, z2, z3, z4, z5, z6, z7, z8, z9, z10, z11, z12, z13, z14] at h2
  rw [blocksP_bad (i := i) hk (by omega) (by have hq := h2; rw [Int.toNat_natCast] at hq; omega)]
  refine AW.seq ?_
  refine AW.region ?_
  refine OpsW.q rfl (q_assign (v := .slice _ _ _) rfl) ?_
  refine OpsW.q rfl (q_assign (v := .int _ _) rfl) ?_
  refine OpsW.nil ?_
  refine SeqP.go ?_
  refine AW.ret ?_
  refine SeqP.ret ?_
  refine BlockP.ret ?_
  refine SeqP.ret ?_
  refine LoopP.ret ?_
  refine BlockP.ret ?_
  refine SeqP.ret ?_
  refine RetP.mk2 (H' := Hl0) (v1 := .slice _ _ _) (v2 := .int _ _) rfl rfl rfl  (Hp.le_refl _) ?_
  exact ⟨nilV, rfl, hSl0.tail.tail.tail.nil⟩
 try simp only [z1, z2, z3, z4, z5, z6, z7, z8, z9, z10, z11, z12, z13, z14] at h2
 have h16 : (bs.getD i []).length = 16 := by have hq := h2; rw [Int.toNat_natCast] at hq; omega
 refine AW.skip ?_
 refine SeqP.go ?_
 refine AW.seq ?_
 refine AW.region ?_
 refine OpsW.q rfl (q_move (v := .pointer _) rfl) ?_
 refine OpsW.q rfl (q_move (v := S _) rfl) ?_
 refine OpsW.m rfl (s_bytes hSl0 rfl Tryz.underlying35 Tryz.underlying5 rfl (by unfold maxLen; omega)) ?_
 rintro v27 H2 hS2
 clear hSl0
 refine OpsW.q rfl (q_arrayVec (hS2.vec at0) Tryz.underlying144 rfl (by omega) (by omega)) ?_
 refine OpsW.q rfl (q_loadVAB (m := 16) (hS2.vec at0) (by kernel_rfl) rfl (by omega) (by omega)) ?_
 refine OpsW.q rfl (o_call rfl Tryz.func117 rfl rfl (block_con (hS2.blk at2) (hS2.blk at3) (keysL_length (by omega)) (by simp only [nums_length, List.length_set, List.length_replicate, List.length_take, List.length_drop, List.length_append, List.length_cons, List.length_nil, ofB_length, toB_length]; omega))) ?_
 have hsl := stA_length' (keysL key) ((bs.getD (i : Int).toNat []).take 16)
 refine OpsW.m rfl (s_allocB 16 hS2 (by kernel_rfl)) ?_
 rintro _ H3 ⟨b10, rfl, hS3⟩
 clear hS2
 refine OpsW.ms (s_storeA (n := 16) (k := .u8) hS3 at0 (by kernel_rfl) rfl rfl (by simp only [nums_length, List.length_set, List.length_replicate, List.length_take, List.length_drop, List.length_append, List.length_cons, List.length_nil, ofB_length, toB_length]; omega) (by rfl)) ?_
 rintro _ H4 ⟨rfl, hS4⟩
 clear hS3
 refine OpsW.nil ?_
 refine SeqP.go ?_
 refine AW.region ?_
 refine OpsW.q rfl (q_move (v := vo) rfl) ?_
 refine OpsW.q rfl (q_sliceArr_all (sz := 1) Tryz.underlying144 (by kernel_rfl) rfl ) ?_
 refine OpsW.q rfl (q_stringB0 Tryz.underlying35 Tryz.underlying5 Tryz.underlying9 rfl (hS4.blk at0) (by omega)) ?_
 refine OpsW.m rfl (s_buildSlice (z := S []) (vs := strs [_]) hS4 Tryz.underlying43 (by kernel_rfl) (by kernel_rfl) rfl (by rfl) (by rfl) (by decide) rfl (strs_one _) rfl) ?_
 rintro v34 H5 hS5
 clear hS4
 refine OpsW.m rfl (s_append (sz := 1) (by_ := 16) (z := S []) hS5 at3 Tryz.underlying43 (by kernel_rfl) (by kernel_rfl) (by kernel_rfl) rfl (by kernel_rfl) rfl rfl (src_vec (hS5.vec at0) (strs_one _)) (by unfold maxLen; omega) (by omega)) ?_
 rintro v35 H6 hS6
 clear hS5
 replace hS6 := hS6.del del0
 refine OpsW.q rfl (q_assign (v := v35) rfl) ?_
 refine OpsW.nil ?_
 refine BlockP.go ?_
 refine SeqP.go ?_
 refine AW.region ?_
 refine OpsW.q rfl (q_addI rfl rfl (by omega)) ?_
 refine OpsW.q rfl (q_move (v := .int _ _) rfl) ?_
 refine OpsW.nil ?_
 replace hS6 := hS6.del del0
 replace hS6 := hS6.del del0
 exact LoopP.go _ (by omega) ⟨i + 1, v35, _, rfl, ⟨by omega, fun j h => if h9 : j < i then hg j h9 else (show j = i by omega) ▸ h16⟩, Slots.eq ⟨(by rfl), (by rfl), (by rfl), (by rfl), (by rfl),  trivial⟩, (by rw [blkL_succ key (by omega), strs_append]; have hq := hS6; rw [Int.toNat_natCast, List.take_of_length_le (l := stA _ _ _) (by rw [stA_length']; decide), List.take_of_length_le (l := bs.getD i []) (by omega), blkA_eq] at hq; exact hq)⟩
end
end Go.Proofs.YtfpoldogcopmpaaGreatDoor
end
section
namespace Go.Proofs.YtfpoldogcopmpaaGreatDoor
open Go Go.RowKit D
set_option linter.unusedVariables false
set_option linter.unusedSimpArgs false
set_option maxRecDepth 100000
set_option maxHeartbeats 2000000
section
variable {w0 : World} {H : Hp} {H0 : Hp}
theorem Same_con {a b : List UInt8} (hm : a.length ≤ 4294967296) : Con Tryz.prog w0 44 #[S a, S b] H (fun v H' => v = .bool (decide (a = b)) ∧ H' = H) := by
 have hS0 : Sep H [] H := Sep.refl
 refine Con.intro Tryz.func44 rfl rfl ?_
 refine AW.seq ?_
 refine AW.region ?_
 refine OpsW.q rfl (q_assign (v := .bool _) rfl) ?_
 refine OpsW.nil ?_
 refine SeqP.go ?_
 refine AW.seq ?_
 refine AW.seq ?_
 refine AW.region ?_
 refine OpsW.q rfl (q_move (v := S _) rfl) ?_
 refine OpsW.q rfl (q_lenS Tryz.underlying9 rfl) ?_
 refine OpsW.q rfl (q_move (v := S _) rfl) ?_
 refine OpsW.q rfl (q_lenS Tryz.underlying9 rfl) ?_
 refine OpsW.q rfl (q_neq rfl rfl) ?_
 refine OpsW.nil ?_
 refine SeqP.go ?_
 refine AW.cond rfl (fun h0 => ?_) (fun h0 => ?_)
 ·
  try simp only [z1, z2, z3, z4, z5, z6, z7, z8, z9, z10, z11, z12, z13, z14] at h0
  have hne : ¬ a = b := fun h => h0 (by rw [h])
  refine AW.seq ?_
  refine AW.region ?_
  refine OpsW.q rfl (q_assign (v := .bool _) rfl) ?_
  refine OpsW.nil ?_
  refine SeqP.go ?_
  refine AW.ret ?_
  refine SeqP.ret ?_
  refine RetP.mk1 (H' := H) (v1 := .bool _) rfl rfl  hS0.le ?_
  exact ⟨by rw [decide_eq_false hne], rfl⟩
 try simp only [z1, z2, z3, z4, z5, z6, z7, z8, z9, z10, z11, z12, z13, z14] at h0
 have hl : a.length = b.length := by omega
 refine AW.skip ?_
 refine SeqP.go ?_
 refine AW.seq ?_
 refine AW.region ?_
 refine OpsW.q rfl (q_assign (v := .int _ _) rfl) ?_
 refine OpsW.nil ?_
 refine SeqP.go ?_
 refine AW.seq ?_
 refine AW.seq ?_
 refine AW.region ?_
 refine OpsW.q rfl (q_move (v := S _) rfl) ?_
 refine OpsW.q rfl (q_lenS Tryz.underlying9 rfl) ?_
 refine OpsW.q rfl (q_move (v := .int _ _) rfl) ?_
 refine OpsW.nil ?_
 refine SeqP.go ?_
 refine AW.block ?_
 refine AW.loop (fun m_ e_ H_ => ∃ (i : Nat) (e0 : Env), m_ = a.length - i ∧ (i ≤ a.length) ∧ e_ = upds e0 [(0, S a), (1, S b), (5, BV (oddK a b i)), (13, .int .i64 (a.length : Int)), (14, .int .i64 (i : Int))] ∧ Sep H [] H_) _ ⟨0, _, rfl, (by omega), Slots.eq ⟨(by rfl), (by rfl), (by rw [oddK_zero']; rfl), (by rfl), (by rfl),  trivial⟩, hS0⟩ ?_
 rintro m_ _ Hl0 ⟨i, e0, rfl, hf, rfl, hSl0⟩
 try clear hS0
 refine AW.seq ?_
 refine AW.region ?_
 refine OpsW.q rfl (q_lss rfl rfl) ?_
 refine OpsW.nil ?_
 refine SeqP.go ?_
 refine AW.seq ?_
 refine AW.cond2 rfl (fun h1 => ?_) (fun h1 => ?_)
 ·
  try simp only [z1, z2, z3, z4, z5, z6, z7, z8, z9, z10, z11, z12, z13, z14] at h1
  refine AW.exit ?_
  refine SeqP.exit ?_
  refine LoopP.exit ?_
  obtain rfl : i = a.length := by omega
  refine BlockP.here ?_
  refine SeqP.go ?_
  refine AW.seq ?_
  refine AW.region ?_
  refine OpsW.q rfl (q_move (v := .int _ _) rfl) ?_
  refine OpsW.q rfl (q_eql rfl rfl) ?_
  refine OpsW.q rfl (q_assign (v := .bool _) rfl) ?_
  refine OpsW.nil ?_
  refine SeqP.go ?_
  refine AW.ret ?_
  refine RetP.mk1 (H' := H) (v1 := .bool _) rfl rfl  hSl0.le ?_
  refine ⟨congrArg Value.bool (decide_eq_decide.2 ?_), rfl⟩
  rw [← same_iff hl]
  exact ⟨fun h => UInt8.toNat_inj.1 (Int.ofNat_inj.1 h), fun h => by rw [h]; rfl⟩
 try simp only [z1, z2, z3, z4, z5, z6, z7, z8, z9, z10, z11, z12, z13, z14] at h1
 refine AW.skip ?_
 refine SeqP.go ?_
 refine AW.seq ?_
 refine AW.block ?_
 refine AW.seq ?_
 refine AW.region ?_
 refine OpsW.q rfl (q_move (v := .int _ _) rfl) ?_
 refine OpsW.q rfl (q_assign (v := .int _ _) rfl) ?_
 refine OpsW.nil ?_
 refine SeqP.go ?_
 refine AW.drawK [] 8 rfl (by kernel_rfl) ?_
 refine SeqK.q rfl (q_move (v := .int _ _) rfl) ?_
 refine SeqK.q rfl (q_move (v := S _) rfl) ?_
 refine SeqK.q rfl (q_move (v := .int _ _) rfl) ?_
 refine SeqK.q rfl (q_indexS Tryz.underlying9 rfl rfl (by omega) (by omega)) ?_
 refine SeqK.q rfl (q_move (v := S _) rfl) ?_
 refine SeqK.q rfl (q_move (v := .int _ _) rfl) ?_
 refine SeqK.q rfl (q_indexS Tryz.underlying9 rfl rfl (by omega) (by omega)) ?_
 refine SeqK.q rfl (q_xorB rfl rfl) ?_
 refine SeqK.done ?_
 refine OpsW.q rfl (q_orB rfl rfl) ?_
 refine OpsW.q rfl (q_assign (v := .int _ _) rfl) ?_
 refine OpsW.nil ?_
 refine BlockP.go ?_
 refine SeqP.go ?_
 refine AW.region ?_
 refine OpsW.q rfl (q_addI rfl rfl (by omega)) ?_
 refine OpsW.q rfl (q_move (v := .int _ _) rfl) ?_
 refine OpsW.nil ?_
 exact LoopP.go _ (by omega) ⟨i + 1, _, rfl, (by omega), Slots.eq ⟨(by rfl), (by rfl), (by rw [oddK_succ']; rfl), (by rfl), (by rfl),  trivial⟩, hSl0⟩
theorem counter_con {nonce : List UInt8} {n : Nat} (hn : nonce.length = 12) (hm : n < 4294967296) : Con Tryz.prog w0 95 #[S nonce, .int .i64 (n : Int)] H (fun v H' => v = S (ctrB nonce n) ∧ H' = H) := by
 have hS0 : Sep H [] H := Sep.refl
 refine Con.intro Tryz.func95 rfl rfl ?_
 refine AW.seq ?_
 refine AW.region ?_
 refine OpsW.q rfl (q_assign (v := S _) rfl) ?_
 refine OpsW.nil ?_
 refine SeqP.go ?_
 refine AW.seq ?_
 refine AW.region ?_
 refine OpsW.m rfl (s_allocB 16 hS0 (by kernel_rfl)) ?_
 rintro _ H1 ⟨b5, rfl, hS1⟩
 clear hS0
 refine OpsW.nil ?_
 refine SeqP.go ?_
 refine AW.seq ?_
 refine AW.region ?_
 refine OpsW.q rfl (q_sliceArr_all (sz := 1) Tryz.underlying144 (by kernel_rfl) rfl ) ?_
 refine OpsW.q rfl (q_move (v := S _) rfl) ?_
 refine OpsW.m rfl (s_copyB hS1 at0 Tryz.underlying35 (by kernel_rfl) rfl rfl (by simp only [nums_length, List.length_set, List.length_replicate, List.length_take, List.length_drop, List.length_append, List.length_cons, List.length_nil, ofB_length, toB_length]; omega) src_str) ?_
 rintro _ H2 ⟨rfl, hS2⟩
 clear hS1
 rw [ctr_start hn n] at hS2
 refine OpsW.nil ?_
 refine SeqP.go ?_
 refine AW.seq ?_
 refine AW.seq ?_
 refine AW.region ?_
 refine OpsW.q rfl (q_move (v := .int _ _) rfl) ?_
 refine OpsW.nil ?_
 refine SeqP.go ?_
 refine AW.block ?_
 refine AW.loop (fun m_ e_ H_ => ∃ (i : Nat) (e0 : Env), m_ = 4 - i ∧ (i ≤ 4) ∧ e_ = upds e0 [(1, .int .i64 (n : Int)), (5, .pointer (some ⟨b5, 0, none⟩)), (10, .int .i64 (i : Int))] ∧ Sep H [.blk b5 ⟨nums .u8 ((ofB (ctrK nonce n i))), 16, 144⟩] H_) _ ⟨0, _, rfl, (by omega), Slots.eq ⟨(by rfl), (by rfl), (by rfl),  trivial⟩, hS2⟩ ?_
 rintro m_ _ Hl0 ⟨i, e0, rfl, hf, rfl, hSl0⟩
 try clear hS2
 have hl := ctrK_length hn n hf
 refine AW.seq ?_
 refine AW.region ?_
 refine OpsW.q rfl (q_lss rfl rfl) ?_
 refine OpsW.nil ?_
 refine SeqP.go ?_
 refine AW.seq ?_
 refine AW.cond2 rfl (fun h0 => ?_) (fun h0 => ?_)
 ·
  try simp only [z1, z2, z3, z4, z5, z6, z7, z8, z9, z10, z11, z12, z13, z14] at h0
  refine AW.exit ?_
  refine SeqP.exit ?_
  refine LoopP.exit ?_
  obtain rfl : i = 4 := by omega
  refine BlockP.here ?_
  refine SeqP.go ?_
  refine AW.seq ?_
  refine AW.region ?_
  refine OpsW.q rfl (q_sliceArr_all (sz := 1) Tryz.underlying144 (by kernel_rfl) rfl ) ?_
  refine OpsW.q rfl (q_stringB0 Tryz.underlying35 Tryz.underlying5 Tryz.underlying9 rfl (hSl0.blk at0) (by omega)) ?_
  refine OpsW.q rfl (q_assign (v := S _) rfl) ?_
  refine OpsW.nil ?_
  refine SeqP.go ?_
  refine AW.ret ?_
  refine RetP.mk1 (H' := H) (v1 := S _) rfl rfl  hSl0.le ?_
  rw [ctrK_fin]
  have hl9 : (ctrB nonce n).take 16 = ctrB nonce n := List.take_of_length_le (by rw [ctrB_length hn]; exact Nat.le_refl _)
  exact ⟨by rw [hl9], rfl⟩
 try simp only [z1, z2, z3, z4, z5, z6, z7, z8, z9, z10, z11, z12, z13, z14] at h0
 refine AW.skip ?_
 refine SeqP.go ?_
 refine AW.seq ?_
 refine AW.block ?_
 refine AW.seq ?_
 refine AW.region ?_
 refine OpsW.q rfl (q_move (v := .int _ _) rfl) ?_
 refine OpsW.q rfl (q_assign (v := .int _ _) rfl) ?_
 refine OpsW.nil ?_
 refine SeqP.go ?_
 refine AW.region ?_
 refine OpsW.q rfl (q_move (v := .int _ _) rfl) ?_
 refine OpsW.q rfl (q_subI rfl rfl (by omega)) ?_
 refine OpsW.q rfl (q_move (v := .int _ _) rfl) ?_
 refine OpsW.q rfl (q_move (v := .int _ _) rfl) ?_
 refine OpsW.q rfl (q_mulI rfl rfl (by omega)) ?_
 refine OpsW.q rfl (q_shr rfl rfl (by omega)) ?_
 refine OpsW.q rfl (q_convInt rfl Tryz.underlying5 rfl) ?_
 rw [ctr_byte n (by omega)]
 refine OpsW.q rfl (q_indexAddrA0 Tryz.underlying144 (by kernel_rfl) rfl rfl (by omega) (by omega)) ?_
 refine OpsW.ms (s_storeB hSl0 at0 (by kernel_rfl) rfl rfl (by omega)) ?_
 rintro _ H3 ⟨rfl, hS3⟩
 clear hSl0
 refine OpsW.nil ?_
 refine BlockP.go ?_
 refine SeqP.go ?_
 refine AW.region ?_
 refine OpsW.q rfl (q_addI rfl rfl (by omega)) ?_
 refine OpsW.q rfl (q_move (v := .int _ _) rfl) ?_
 refine OpsW.nil ?_
 exact LoopP.go _ (by omega) ⟨i + 1, _, rfl, (by omega), Slots.eq ⟨(by rfl), (by rfl), (by rfl),  trivial⟩, (by have hs := hS3; rw [show ((15 : Int) - (i : Int)).toNat = 15 - i from by omega, ctr_step hn n (by omega)] at hs; exact hs)⟩
theorem filled_con {s : List UInt8} (hm : s.length ≤ 4294967296) : Con Tryz.prog w0 99 #[S s] H (fun v H' => v = S (flB s) ∧ H' = H) := by
 have hS0 : Sep H [] H := Sep.refl
 refine Con.intro Tryz.func99 rfl rfl ?_
 refine AW.seq ?_
 refine AW.region ?_
 refine OpsW.q rfl (q_assign (v := S _) rfl) ?_
 refine OpsW.nil ?_
 refine SeqP.go ?_
 refine AW.seq ?_
 refine AW.region ?_
 refine OpsW.q rfl (q_move (v := S _) rfl) ?_
 refine OpsW.q rfl (q_move (v := S _) rfl) ?_
 refine OpsW.q rfl (q_lenS Tryz.underlying9 rfl) ?_
 refine OpsW.q rfl (q_remI rfl rfl (by omega)) ?_
 refine OpsW.q rfl (q_subI rfl rfl (by omega)) ?_
 refine OpsW.q rfl (q_remI rfl rfl (by omega)) ?_
 refine OpsW.m rfl (s_makeSliceB (by_ := 1) hS0 Tryz.underlying35 (by kernel_rfl) (by kernel_rfl) (by kernel_rfl) rfl rfl (by omega) (by omega) (by omega) (by omega) (by unfold maxLen; omega)) ?_
 rintro v9 H1 hS1
 clear hS0
 refine OpsW.q rfl (q_stringB (hS1.vec at0) Tryz.underlying35 Tryz.underlying5 Tryz.underlying9 rfl) ?_
 refine OpsW.q rfl (q_cat rfl rfl (by simp only [nums_length, List.length_set, List.length_replicate, List.length_take, List.length_drop, List.length_append, List.length_cons, List.length_nil, ofB_length, toB_length]; omega)) ?_
 refine OpsW.q rfl (q_assign (v := S _) rfl) ?_
 refine OpsW.nil ?_
 refine SeqP.go ?_
 refine AW.ret ?_
 refine RetP.mk1 (H' := H) (v1 := S _) rfl rfl  hS1.le ?_
 refine ⟨?_, rfl⟩
 rw [flB_eq, show ((16 - (s.length : Int) % 16) % 16).toNat = (16 - s.length % 16) % 16 from by omega, zs_eq]
theorem laid_con {s o : List UInt8} (hl : s.length ≤ o.length) (hm : s.length ≤ 4294967296) : Con Tryz.prog w0 74 #[S s, S o] H (fun v H' => v = S (laidB s o) ∧ H' = H) := by
 have hS0 : Sep H [] H := Sep.refl
 refine Con.intro Tryz.func74 rfl rfl ?_
 refine AW.seq ?_
 refine AW.region ?_
 refine OpsW.q rfl (q_assign (v := S _) rfl) ?_
 refine OpsW.nil ?_
 refine SeqP.go ?_
 refine AW.seq ?_
 refine AW.region ?_
 refine OpsW.q rfl (q_move (v := S _) rfl) ?_
 refine OpsW.m rfl (s_bytes hS0 rfl Tryz.underlying35 Tryz.underlying5 rfl (by unfold maxLen; omega)) ?_
 rintro v8 H1 hS1
 clear hS0
 refine OpsW.q rfl (q_assign (v := v8) rfl) ?_
 refine OpsW.nil ?_
 refine SeqP.go ?_
 refine AW.seq ?_
 refine AW.seq ?_
 refine AW.region ?_
 refine OpsW.q rfl (q_move (v := v8) rfl) ?_
 refine OpsW.q rfl (q_lenVec Tryz.underlying35 rfl (hS1.vec at0)) ?_
 refine OpsW.q rfl (q_move (v := .int _ _) rfl) ?_
 refine OpsW.nil ?_
 refine SeqP.go ?_
 refine AW.block ?_
 refine AW.loop (fun m_ e_ H_ => ∃ (i : Nat) (vo : Value) (e0 : Env), m_ = s.length - i ∧ (i ≤ s.length) ∧ e_ = upds e0 [(1, S o), (5, vo), (10, .int .i64 (s.length : Int)), (11, .int .i64 (i : Int))] ∧ Sep H [.vec vo 5 1 s.length (nums .u8 (ofB (withK s o i)))] H_) _ ⟨0, v8, _, rfl, (by omega), Slots.eq ⟨(by rfl), (by rfl), (by rfl), (by rfl),  trivial⟩, (by rw [withK_zero]; exact hS1)⟩ ?_
 rintro m_ _ Hl0 ⟨i, vo, e0, rfl, hf, rfl, hSl0⟩
 try clear hS1
 have hl1 := withK_length s o i
 refine AW.seq ?_
 refine AW.region ?_
 refine OpsW.q rfl (q_lss rfl rfl) ?_
 refine OpsW.nil ?_
 refine SeqP.go ?_
 refine AW.seq ?_
 refine AW.cond2 rfl (fun h0 => ?_) (fun h0 => ?_)
 ·
  try simp only [z1, z2, z3, z4, z5, z6, z7, z8, z9, z10, z11, z12, z13, z14] at h0
  refine AW.exit ?_
  refine SeqP.exit ?_
  refine LoopP.exit ?_
  obtain rfl : i = s.length := by omega
  refine BlockP.here ?_
  refine SeqP.go ?_
  refine AW.seq ?_
  refine AW.region ?_
  refine OpsW.q rfl (q_move (v := vo) rfl) ?_
  refine OpsW.q rfl (q_stringB (hSl0.vec at0) Tryz.underlying35 Tryz.underlying5 Tryz.underlying9 rfl) ?_
  refine OpsW.q rfl (q_assign (v := S _) rfl) ?_
  refine OpsW.nil ?_
  refine SeqP.go ?_
  refine AW.ret ?_
  refine RetP.mk1 (H' := H) (v1 := S _) rfl rfl  hSl0.le ?_
  exact ⟨by rw [withK_all], rfl⟩
 try simp only [z1, z2, z3, z4, z5, z6, z7, z8, z9, z10, z11, z12, z13, z14] at h0
 refine AW.skip ?_
 refine SeqP.go ?_
 refine AW.seq ?_
 refine AW.block ?_
 refine AW.seq ?_
 refine AW.region ?_
 refine OpsW.q rfl (q_move (v := .int _ _) rfl) ?_
 refine OpsW.q rfl (q_assign (v := .int _ _) rfl) ?_
 refine OpsW.nil ?_
 refine SeqP.go ?_
 refine AW.drawK [] 7 rfl (by kernel_rfl) ?_
 refine SeqK.q rfl (q_move (v := vo) rfl) ?_
 refine SeqK.q rfl (q_move (v := .int _ _) rfl) ?_
 refine SeqK.q rfl (q_indexV1 (hSl0.vec at0) Tryz.underlying35 (by kernel_rfl) rfl rfl (by omega) (by omega)) ?_
 refine SeqK.q rfl (q_loadVB (hSl0.vec at0) (by kernel_rfl) rfl (by omega)) ?_
 refine SeqK.q rfl (q_move (v := S _) rfl) ?_
 refine SeqK.q rfl (q_move (v := .int _ _) rfl) ?_
 refine SeqK.q rfl (q_indexS Tryz.underlying9 rfl rfl (by omega) (by omega)) ?_
 refine SeqK.done ?_
 refine OpsW.q rfl (q_xorB rfl rfl) ?_
 refine OpsW.q rfl (q_indexV1 (hSl0.vec at0) Tryz.underlying35 (by kernel_rfl) rfl rfl (by omega) (by omega)) ?_
 refine OpsW.ms (s_storeVB hSl0 at0 (by kernel_rfl) rfl rfl (by omega)) ?_
 rintro _ H2 ⟨rfl, hS2⟩
 clear hSl0
 refine OpsW.nil ?_
 refine BlockP.go ?_
 refine SeqP.go ?_
 refine AW.region ?_
 refine OpsW.q rfl (q_addI rfl rfl (by omega)) ?_
 refine OpsW.q rfl (q_move (v := .int _ _) rfl) ?_
 refine OpsW.nil ?_
 exact LoopP.go _ (by omega) ⟨i + 1, vo, _, rfl, (by omega), Slots.eq ⟨(by rfl), (by rfl), (by rfl), (by rfl),  trivial⟩, (by rw [withK_succ]; exact hS2)⟩
theorem Hash_con {key bl : List UInt8} (hm : bl.length ≤ 4294967296) : Con Tryz.prog w0 98 #[S key, S bl] H (fun v H' => v = .tuple #[S (hashP key bl).1, .int .i64 (hashP key bl).2] ∧ H' = H) := by
 have hS0 : Sep H [] H := Sep.refl
 refine Con.intro Tryz.func98 rfl rfl ?_
 refine AW.seq ?_
 refine AW.region ?_
 refine OpsW.q rfl (q_assign (v := S _) rfl) ?_
 refine OpsW.q rfl (q_assign (v := .int _ _) rfl) ?_
 refine OpsW.nil ?_
 refine SeqP.go ?_
 refine AW.seq ?_
 refine AW.block ?_
 refine AW.seq ?_
 refine AW.region ?_
 refine OpsW.q rfl (q_move (v := S _) rfl) ?_
 refine OpsW.q rfl (q_lenS Tryz.underlying9 rfl) ?_
 refine OpsW.q rfl (q_neq rfl rfl) ?_
 refine OpsW.q rfl (q_assign (v := .bool _) rfl) ?_
 refine OpsW.nil ?_
 refine SeqP.go ?_
 refine AW.cond rfl (fun h0 => ?_) (fun h0 => ?_)
 ·
  try simp only [z1, z2, z3, z4, z5, z6, z7, z8, z9, z10, z11, z12, z13, z14] at h0
  rw [hashP_key bl (by omega)]
  refine AW.seq ?_
  refine AW.region ?_
  refine OpsW.q rfl (q_assign (v := S _) rfl) ?_
  refine OpsW.q rfl (q_assign (v := .int _ _) rfl) ?_
  refine OpsW.nil ?_
  refine SeqP.go ?_
  refine AW.ret ?_
  refine BlockP.ret ?_
  refine SeqP.ret ?_
  refine RetP.mk2 (H' := H) (v1 := S _) (v2 := .int _ _) rfl rfl rfl  hS0.le ?_
  exact ⟨rfl, rfl⟩
 try simp only [z1, z2, z3, z4, z5, z6, z7, z8, z9, z10, z11, z12, z13, z14] at h0
 have hk : key.length = 16 := by omega
 refine AW.seq ?_
 refine AW.region ?_
 refine OpsW.q rfl (q_move (v := S _) rfl) ?_
 refine OpsW.q rfl (q_lenS Tryz.underlying9 rfl) ?_
 refine OpsW.q rfl (q_remI rfl rfl (by omega)) ?_
 refine OpsW.q rfl (q_neq rfl rfl) ?_
 refine OpsW.q rfl (q_assign (v := .bool _) rfl) ?_
 refine OpsW.nil ?_
 refine SeqP.go ?_
 refine AW.cond rfl (fun h1 => ?_) (fun h1 => ?_)
 ·
  try simp only [z1, z2, z3, z4, z5, z6, z7, z8, z9, z10, z11, z12, z13, z14] at h1
  rw [hashP_arg hk (by omega)]
  refine AW.seq ?_
  refine AW.region ?_
  refine OpsW.q rfl (q_assign (v := S _) rfl) ?_
  refine OpsW.q rfl (q_assign (v := .int _ _) rfl) ?_
  refine OpsW.nil ?_
  refine SeqP.go ?_
  refine AW.ret ?_
  refine BlockP.ret ?_
  refine SeqP.ret ?_
  refine RetP.mk2 (H' := H) (v1 := S _) (v2 := .int _ _) rfl rfl rfl  hS0.le ?_
  exact ⟨rfl, rfl⟩
 try simp only [z1, z2, z3, z4, z5, z6, z7, z8, z9, z10, z11, z12, z13, z14] at h1
 have hb : bl.length % 16 = 0 := by omega
 refine AW.skip ?_
 refine BlockP.go ?_
 refine SeqP.go ?_
 refine AW.seq ?_
 have hl6 := pair_length (beK key 16)
 refine AW.region ?_
 refine OpsW.q rfl (q_move (v := S _) rfl) ?_
 refine OpsW.q rfl (o_call rfl Tryz.func97 rfl rfl (gof_con (by omega))) ?_
 refine OpsW.m rfl (s_allocN (k := .u64) (m := 2) hS0 (by kernel_rfl)) ?_
 rintro _ H1 ⟨b6, rfl, hS1⟩
 clear hS0
 refine OpsW.ms (s_storeA (n := 2) (k := .u64) hS1 at0 (by kernel_rfl) rfl rfl (by with_reducible assumption) (by rfl)) ?_
 rintro _ H2 ⟨rfl, hS2⟩
 clear hS1
 refine OpsW.nil ?_
 refine SeqP.go ?_
 refine AW.seq ?_
 refine AW.region ?_
 refine OpsW.m rfl (s_allocN (k := .u64) (m := 2) hS2 (by kernel_rfl)) ?_
 rintro _ H3 ⟨b7, rfl, hS3⟩
 clear hS2
 refine OpsW.nil ?_
 refine SeqP.go ?_
 refine AW.seq ?_
 refine AW.seq ?_
 refine AW.region ?_
 refine OpsW.q rfl (q_assign (v := .int _ _) rfl) ?_
 refine OpsW.nil ?_
 refine SeqP.go ?_
 refine AW.block ?_
 refine AW.loop (fun m_ e_ H_ => ∃ (i : Nat) (e0 : Env), m_ = bl.length - 16 * i ∧ (16 * i ≤ bl.length) ∧ e_ = upds e0 [(1, S bl), (6, .pointer (some ⟨b6, 0, none⟩)), (7, .pointer (some ⟨b7, 0, none⟩)), (8, .int .i64 ((16 * i : Nat) : Int))] ∧ Sep H [.blk b7 ⟨nums .u64 ((pair (hashK (beK key 16) bl i))), 2, 110⟩, .blk b6 ⟨nums .u64 ((pair (beK key 16))), 2, 110⟩] H_) _ ⟨0, _, rfl, (by omega), Slots.eq ⟨(by rfl), (by rfl), (by rfl), (by rfl),  trivial⟩, (by rw [hashK_zero', pair_zero]; exact hS3)⟩ ?_
 rintro m_ _ Hl0 ⟨i, e0, rfl, hf, rfl, hSl0⟩
 try clear hS3
 have hl7 := pair_length (hashK (beK key 16) bl i)
 have hl8 : (pair (gm (hashK (beK key 16) bl i ^^^ beK (List.drop (((16 * i : Nat) : Int)).toNat bl) 16) (beK key 16))).length = 2 := pair_length _
 refine AW.seq ?_
 refine AW.seq ?_
 refine AW.region ?_
 refine OpsW.q rfl (q_move (v := .int _ _) rfl) ?_
 refine OpsW.q rfl (q_move (v := S _) rfl) ?_
 refine OpsW.q rfl (q_lenS Tryz.underlying9 rfl) ?_
 refine OpsW.q rfl (q_lss rfl rfl) ?_
 refine OpsW.nil ?_
 refine SeqP.go ?_
 refine AW.cond2 rfl (fun h2 => ?_) (fun h2 => ?_)
 ·
  try simp only [z1, z2, z3, z4, z5, z6, z7, z8, z9, z10, z11, z12, z13, z14] at h2
  refine AW.exit ?_
  refine SeqP.exit ?_
  refine LoopP.exit ?_
  obtain rfl : i = bl.length / 16 := by omega
  refine BlockP.here ?_
  refine SeqP.go ?_
  refine AW.seq ?_
  refine AW.region ?_
  refine OpsW.q rfl (q_loadAN (n := 2) (k := .u64) (by kernel_rfl) rfl (hSl0.blk at0) (by with_reducible assumption)) ?_
  refine OpsW.q rfl (o_call rfl Tryz.func100 rfl rfl (gString_con (hashK_lt _ _ _))) ?_
  refine OpsW.q rfl (q_assign (v := S _) rfl) ?_
  refine OpsW.q rfl (q_assign (v := .int _ _) rfl) ?_
  refine OpsW.nil ?_
  refine SeqP.go ?_
  refine AW.ret ?_
  refine RetP.mk2 (H' := H) (v1 := S _) (v2 := .int _ _) rfl rfl rfl  hSl0.le ?_
  rw [hashP_ok hk hb, hashB_def]
  exact ⟨rfl, rfl⟩
 try simp only [z1, z2, z3, z4, z5, z6, z7, z8, z9, z10, z11, z12, z13, z14] at h2
 refine AW.skip ?_
 refine SeqP.go ?_
 refine AW.seq ?_
 refine AW.block ?_
 refine AW.drawK [] 7 rfl (by kernel_rfl) ?_
 refine SeqK.q rfl (q_loadAN (n := 2) (k := .u64) (by kernel_rfl) rfl (hSl0.blk at0) (by with_reducible assumption)) ?_
 refine SeqK.q rfl (q_move (v := S _) rfl) ?_
 refine SeqK.q rfl (q_move (v := .int _ _) rfl) ?_
 refine SeqK.q rfl (q_sliceS_lo Tryz.underlying9 rfl rfl (by omega) (by omega)) ?_
 refine SeqK.q rfl (o_call rfl Tryz.func97 rfl rfl (gof_con (by rw [List.length_drop]; omega))) ?_
 refine SeqK.q rfl (o_call rfl Tryz.func101 rfl rfl (gwith_con (hashK_lt _ _ _) (beK_lt128 _))) ?_
 refine SeqK.q rfl (q_loadAN (n := 2) (k := .u64) (by kernel_rfl) rfl (hSl0.blk at1) (by with_reducible assumption)) ?_
 refine SeqK.done ?_
 refine OpsW.q rfl (o_call rfl Tryz.func118 rfl rfl (gtimes_con (Nat.xor_lt_two_pow (hashK_lt _ _ _) (beK_lt128 _)) (beK_lt128 _))) ?_
 refine OpsW.ms (s_storeA (n := 2) (k := .u64) hSl0 at0 (by kernel_rfl) rfl rfl (by with_reducible assumption) (by simp only [nums_length, List.length_set, List.length_replicate, List.length_take, List.length_drop, List.length_append, List.length_cons, List.length_nil, ofB_length, toB_length]; omega)) ?_
 rintro _ H4 ⟨rfl, hS4⟩
 clear hSl0
 refine OpsW.nil ?_
 refine BlockP.go ?_
 refine SeqP.go ?_
 refine AW.region ?_
 refine OpsW.q rfl (q_move (v := .int _ _) rfl) ?_
 refine OpsW.q rfl (q_addI rfl rfl (by omega)) ?_
 refine OpsW.q rfl (q_assign (v := .int _ _) rfl) ?_
 refine OpsW.nil ?_
 exact LoopP.go _ (by omega) ⟨i + 1, _, rfl, (by omega), Slots.eq ⟨(by rfl), (by rfl), (by rfl), (by rfl),  trivial⟩, (by have hs := hS4; rw [Int.toNat_natCast] at hs; rw [hashK_succ']; exact hs)⟩
end
end Go.Proofs.YtfpoldogcopmpaaGreatDoor
end
section
namespace Go.Proofs.YtfpoldogcopmpaaGreatDoor
open Go Go.RowKit D
set_option linter.unusedVariables false
set_option linter.unusedSimpArgs false
set_option maxRecDepth 100000
set_option maxHeartbeats 2000000
section
variable {w0 : World} {H : Hp} {H0 : Hp}
theorem gvec_n {H : Hp} {el : TypeId} {sz n m : Nat} {v : Value} {cs : List Value} (h : n = m) (hV : Vec H el sz v n cs) : Vec H el sz v m cs := h ▸ hV
theorem pads_con {key nonce : List UInt8} {n : Nat} (hk : key.length = 16) (hn : nonce.length = 12) (hm : n ≤ 1048576) : Con Tryz.prog w0 72 #[S key, S nonce, .int .i64 (n : Int)] H (fun v H' => v = .tuple #[S (overK key nonce ((n + 15) / 16)), .agg (nums .u64 (pair (beK (blkA key (ctrB nonce 1)) 16))).toArray, S (blkA key (zs 16))] ∧ H' = H) := by
 have hS0 : Sep H [] H := Sep.refl
 refine Con.intro Tryz.func72 rfl rfl ?_
 refine AW.seq ?_
 refine AW.region ?_
 refine OpsW.q rfl (q_assign (v := S _) rfl) ?_
 refine OpsW.m rfl (s_allocN (k := .u64) (m := 2) hS0 (by kernel_rfl)) ?_
 rintro _ H1 ⟨b7, rfl, hS1⟩
 clear hS0
 refine OpsW.q rfl (q_assign (v := S _) rfl) ?_
 refine OpsW.nil ?_
 refine SeqP.go ?_
 refine AW.seq ?_
 refine AW.region ?_
 refine OpsW.m rfl (s_makeSliceB (by_ := 1) hS1 Tryz.underlying35 (by kernel_rfl) (by kernel_rfl) (by kernel_rfl) rfl rfl (by omega) (by omega) (by omega) (by omega) (by unfold maxLen; omega)) ?_
 rintro v16 H2 hS2
 clear hS1
 refine OpsW.q rfl (q_stringB (hS2.vec at0) Tryz.underlying35 Tryz.underlying5 Tryz.underlying9 rfl) ?_
 refine OpsW.m rfl (s_buildSlice (z := S []) (vs := strs [_]) hS2 Tryz.underlying43 (by kernel_rfl) (by kernel_rfl) rfl (by rfl) (by rfl) (by decide) rfl (strs_one _) rfl) ?_
 rintro v18 H3 hS3
 clear hS2
 refine OpsW.q rfl (q_assign (v := v18) rfl) ?_
 refine OpsW.nil ?_
 refine SeqP.go ?_
 refine AW.seq ?_
 refine AW.seq ?_
 refine AW.region ?_
 refine OpsW.q rfl (q_assign (v := .int _ _) rfl) ?_
 refine OpsW.nil ?_
 refine SeqP.go ?_
 refine AW.block ?_
 replace hS3 := hS3.del del1
 refine AW.loop (fun m_ e_ H_ => ∃ (i : Nat) (vb : Value) (e0 : Env), m_ = (n + 15) / 16 + 1 - i ∧ (i ≤ (n + 15) / 16 + 1) ∧ e_ = upds e0 [(0, S key), (1, S nonce), (2, .int .i64 (n : Int)), (7, .pointer (some ⟨b7, 0, none⟩)), (9, vb), (10, .int .i64 ((i + 1 : Nat) : Int))] ∧ Sep H [.vec vb 9 1 (i + 1) (strs (padK nonce i)), .blk b7 ⟨nums .u64 ([0, 0]), 2, 110⟩] H_) _ ⟨0, v18, _, rfl, (by omega), Slots.eq ⟨(by rfl), (by rfl), (by rfl), (by rfl), (by rfl), (by rfl),  trivial⟩, (by rw [padK_zero', zs_eq]; exact hS3)⟩ ?_
 rintro m_ _ Hl0 ⟨i, vb, e0, rfl, hf, rfl, hSl0⟩
 try clear hS3
 refine AW.seq ?_
 refine AW.seq ?_
 refine AW.region ?_
 refine OpsW.q rfl (q_move (v := .int _ _) rfl) ?_
 refine OpsW.q rfl (q_move (v := .int _ _) rfl) ?_
 refine OpsW.q rfl (q_addI rfl rfl (by omega)) ?_
 refine OpsW.q rfl (q_subI rfl rfl (by omega)) ?_
 refine OpsW.q rfl (q_quoI rfl rfl (by omega)) ?_
 refine OpsW.q rfl (q_addI rfl rfl (by omega)) ?_
 refine OpsW.q rfl (q_leq rfl rfl) ?_
 refine OpsW.nil ?_
 refine SeqP.go ?_
 refine AW.cond2 rfl (fun h0 => ?_) (fun h0 => ?_)
 ·
  try simp only [z1, z2, z3, z4, z5, z6, z7, z8, z9, z10, z11, z12, z13, z14] at h0
  refine AW.exit ?_
  refine SeqP.exit ?_
  refine LoopP.exit ?_
  have hi : i = (n + 15) / 16 + 1 := by omega
  subst hi
  refine BlockP.here ?_
  refine SeqP.go ?_
  refine AW.seq ?_
  refine AW.region ?_
  refine OpsW.q rfl (q_move (v := S _) rfl) ?_
  refine OpsW.q rfl (q_move (v := vb) rfl) ?_
  refine OpsW.m rfl (o_call rfl Tryz.func96 rfl rfl (blocks_con (bs := padK nonce ((n + 15) / 16 + 1)) (gvec_n (padK_length nonce _).symm (hSl0.vec at0)) (by rw [padK_length]; omega))) ?_
  rintro v37 H4 ⟨u37, rfl, hR4⟩
  have hS4 := hSl0.join hR4
  simp only [List.cons_append, List.nil_append] at hS4
  clear hR4 hSl0
  have hbl := padL_blocks hk hn ((n + 15) / 16 + 1)
  rw [hbl] at hS4
  dsimp only at hS4
  rw [hbl]
  have hpl := padL_length key nonce ((n + 15) / 16 + 1)
  have hl1 : (padL key nonce ((n + 15) / 16 + 1)).getD (Int.toNat 1) [] = blkA key (ctrB nonce 1) := padL_get key nonce (by omega)
  have hl0 : (padL key nonce ((n + 15) / 16 + 1)).getD (Int.toNat 0) [] = blkA key (zs 16) := padL_zero' key nonce _
  refine OpsW.q rfl (q_move (v := .tuple _) rfl) ?_
  refine OpsW.q rfl (q_extract (v := u37) rfl rfl) ?_
  refine OpsW.q rfl (q_extract (v := .int _ _) rfl rfl) ?_
  refine OpsW.q rfl (q_assign (v := u37) rfl) ?_
  refine OpsW.q rfl (q_assign (v := .int _ _) rfl) ?_
  refine OpsW.nil ?_
  refine SeqP.go ?_
  refine AW.seq ?_
  refine AW.region ?_
  refine OpsW.q rfl (q_move (v := .int _ _) rfl) ?_
  refine OpsW.q rfl (q_addI rfl rfl (by omega)) ?_
  refine OpsW.m rfl (s_makeSliceB (by_ := 1) hS4 Tryz.underlying35 (by kernel_rfl) (by kernel_rfl) (by kernel_rfl) rfl rfl (by omega) (by omega) (by omega) (by omega) (by unfold maxLen; omega)) ?_
  rintro v42 H5 hS5
  clear hS4
  refine OpsW.q rfl (q_assign (v := v42) rfl) ?_
  refine OpsW.nil ?_
  refine SeqP.go ?_
  refine AW.seq ?_
  refine AW.seq ?_
  refine AW.region ?_
  refine OpsW.q rfl (q_move (v := u37) rfl) ?_
  refine OpsW.q rfl (q_sufWS ((hS5.vec at1).rdw) Tryz.underlying43 (by kernel_rfl) rfl rfl (by omega) (by omega)) ?_
  refine OpsW.q rfl (q_lenWS (((hS5.vec at1).rdw).sufS (n := 2) (by omega)) Tryz.underlying43 rfl) ?_
  refine OpsW.q rfl (q_move (v := .int _ _) rfl) ?_
  refine OpsW.nil ?_
  refine SeqP.go ?_
  refine AW.block ?_
  replace hS5 := Sep.bring del3 hS5
  replace hS5 := Sep.bring del1 hS5
  replace hS5 := Sep.bring del2 hS5
  replace hS5 := hS5.del del3
  refine AW.loop (fun m_ e_ H_ => ∃ (i : Nat) (vo : Value) (e0 : Env), m_ = (n + 15) / 16 - i ∧ (i ≤ (n + 15) / 16) ∧ e_ = upds e0 [(7, .pointer (some ⟨b7, 0, none⟩)), (11, u37), (13, vo), (44, sufV u37 2), (45, .int .i64 (((n + 15) / 16 : Nat) : Int)), (46, .int .i64 (i : Int))] ∧ Sep H [.vec u37 9 1 ((padL key nonce ((n + 15) / 16 + 1)).length) (strs (padL key nonce ((n + 15) / 16 + 1))), .vec vo 5 1 (16 * i) (nums .u8 (ofB (overK key nonce i))), .blk b7 ⟨nums .u64 ([0, 0]), 2, 110⟩] H_) _ ⟨0, v42, _, rfl, (by omega), Slots.eq ⟨(by rfl), (by rfl), (by rfl), (by rfl), (by show Value.int .i64 (((List.drop 2 (padL key nonce ((n + 15) / 16 + 1))).length : Nat) : Int) = _; rw [List.length_drop, hpl]; rfl), (by rfl),  trivial⟩, (by rw [overK_zero']; exact hS5)⟩ ?_
  rintro m_ _ Hl1 ⟨i, vo, e0, rfl, hf, rfl, hSl1⟩
  try clear hS5
  have hol := overK_length' key nonce i
  have hls : (List.drop 2 (padL key nonce ((n + 15) / 16 + 1))).length = (n + 15) / 16 := by rw [List.length_drop, hpl]; omega
  have hbk := blkA_length key (ctrB nonce (i + 2))
  refine AW.seq ?_
  refine AW.region ?_
  refine OpsW.q rfl (q_lss rfl rfl) ?_
  refine OpsW.nil ?_
  refine SeqP.go ?_
  refine AW.seq ?_
  refine AW.cond2 rfl (fun h1 => ?_) (fun h1 => ?_)
  ·
   try simp only [z1, z2, z3, z4, z5, z6, z7, z8, z9, z10, z11, z12, z13, z14] at h1
   refine AW.exit ?_
   refine SeqP.exit ?_
   refine LoopP.exit ?_
   obtain rfl : i = (n + 15) / 16 := by omega
   refine BlockP.here ?_
   refine SeqP.go ?_
   refine AW.seq ?_
   refine AW.drawD 10 0 rfl (by kernel_rfl) (by kernel_rfl) ?_
   refine SeqD.a rfl (fun _ => q_move (v := vo) rfl) ?_
   refine SeqD.b (by kernel_rfl) rfl (q_stringB (hSl1.vec at1) Tryz.underlying35 Tryz.underlying5 Tryz.underlying9 rfl) ?_
   refine SeqD.a rfl (fun _ => q_move (v := u37) rfl) ?_
   refine SeqD.b (by kernel_rfl) rfl (q_indexV1 (hSl1.vec at0) Tryz.underlying43 (by kernel_rfl) rfl rfl (by omega) (by omega)) ?_
   refine SeqD.b (by kernel_rfl) rfl (q_loadVS (hSl1.vec at0) (by kernel_rfl) rfl (by omega)) ?_
   have hl9 := pair_length (beK ((padL key nonce ((n + 15) / 16 + 1)).getD (Int.toNat 1) []) 16)
   refine SeqD.a rfl (fun _ => o_call rfl Tryz.func97 rfl rfl (gof_con (by rw [hl1, blkA_length]; exact Nat.le_refl _))) ?_
   refine SeqD.a rfl (fun _ => q_move (v := u37) rfl) ?_
   refine SeqD.q rfl (q_indexV1 (hSl1.vec at0) Tryz.underlying43 (by kernel_rfl) rfl rfl (by omega) (by omega)) ?_
   refine SeqD.q rfl (q_loadVS (hSl1.vec at0) (by kernel_rfl) rfl (by omega)) ?_
   refine SeqD.a rfl (fun _ => q_assign (v := S _) rfl) ?_
   refine SeqD.ms (s_storeA (n := 2) (k := .u64) hSl1 at2 (by kernel_rfl) rfl rfl (by with_reducible assumption) (by rfl)) ?_
   rintro _ H6 ⟨rfl, hS6⟩
   clear hSl1
   refine ⟨⟨⟨trivial, q_indexV1 (hS6.vec at0) Tryz.underlying43 (by kernel_rfl) rfl rfl (by omega) (by omega)⟩, q_loadVS (hS6.vec at0) (by kernel_rfl) rfl (by omega)⟩, ?_⟩
   refine SeqR2.done ?_
   refine OpsW.q rfl (q_assign (v := S _) rfl) ?_
   refine OpsW.nil ?_
   refine SeqP.go ?_
   refine AW.ret ?_
   refine RetP.mktct (m := 2) (v1 := S _) (v3 := S _) (H' := H) rfl rfl rfl rfl (hS6.blk at2) (by simp only [nums_length, List.length_set, List.length_replicate, List.length_take, List.length_drop, List.length_append, List.length_cons, List.length_nil, ofB_length, toB_length]; omega) (by kernel_rfl) hS6.le ?_
   exact ⟨by rw [hl1, hl0], rfl⟩
  try simp only [z1, z2, z3, z4, z5, z6, z7, z8, z9, z10, z11, z12, z13, z14] at h1
  have hg2 : (List.drop 2 (padL key nonce ((n + 15) / 16 + 1))).getD (i : Int).toNat [] = blkA key (ctrB nonce (i + 2)) := by rw [Int.toNat_natCast]; exact padL_get2 key nonce (by omega)
  have hgl : ((List.drop 2 (padL key nonce ((n + 15) / 16 + 1))).getD (i : Int).toNat []).length = 16 := by rw [hg2, hbk]
  refine AW.skip ?_
  refine SeqP.go ?_
  refine AW.seq ?_
  refine AW.block ?_
  refine AW.seq ?_
  refine AW.region ?_
  refine OpsW.q rfl (q_indexWS (((hSl1.vec at0).rdw).sufS (n := 2) (by omega)) Tryz.underlying43 (by kernel_rfl) rfl rfl (by omega) (by omega)) ?_
  refine OpsW.q rfl (q_loadWS (((hSl1.vec at0).rdw).sufS (n := 2) (by omega)) (by kernel_rfl) rfl (by omega)) ?_
  refine OpsW.q rfl (q_assign (v := S _) rfl) ?_
  refine OpsW.nil ?_
  refine SeqP.go ?_
  refine AW.region ?_
  refine OpsW.q rfl (q_move (v := vo) rfl) ?_
  refine OpsW.q rfl (q_move (v := S _) rfl) ?_
  refine OpsW.m rfl (s_append (sz := 1) (by_ := 1) (z := .int .u8 0) hSl1 at1 Tryz.underlying35 (by kernel_rfl) (by kernel_rfl) (by kernel_rfl) rfl (by kernel_rfl) rfl rfl src_str (by unfold maxLen; omega) (by omega)) ?_
  rintro v52 H7 hS7
  clear hSl1
  rw [← nums_append, ← ofB_app] at hS7
  refine OpsW.q rfl (q_assign (v := v52) rfl) ?_
  refine OpsW.nil ?_
  refine BlockP.go ?_
  refine SeqP.go ?_
  refine AW.region ?_
  refine OpsW.q rfl (q_addI rfl rfl (by omega)) ?_
  refine OpsW.q rfl (q_move (v := .int _ _) rfl) ?_
  refine OpsW.nil ?_
  exact LoopP.go _ (by omega) ⟨i + 1, v52, _, rfl, (by omega), Slots.eq ⟨(by rfl), (by rfl), (by rfl), (by rfl), (by rfl), (by rfl),  trivial⟩, (by have hs := hS7; rw [hg2, hbk, show 16 * i + 16 = 16 * (i + 1) from by omega, ← overK_succ'] at hs; exact hs)⟩
 try simp only [z1, z2, z3, z4, z5, z6, z7, z8, z9, z10, z11, z12, z13, z14] at h0
 refine AW.skip ?_
 refine SeqP.go ?_
 refine AW.seq ?_
 refine AW.block ?_
 refine AW.region ?_
 refine OpsW.q rfl (q_move (v := vb) rfl) ?_
 refine OpsW.q rfl (q_move (v := S _) rfl) ?_
 refine OpsW.q rfl (q_move (v := .int _ _) rfl) ?_
 refine OpsW.q rfl (o_call rfl Tryz.func95 rfl rfl (counter_con hn (by omega))) ?_
 refine OpsW.m rfl (s_buildSlice (z := S []) (vs := strs [_]) hSl0 Tryz.underlying43 (by kernel_rfl) (by kernel_rfl) rfl (by rfl) (by rfl) (by decide) rfl (strs_one _) rfl) ?_
 rintro v32 H8 hS8
 clear hSl0
 refine OpsW.m rfl (s_append (sz := 1) (by_ := 16) (z := S []) hS8 at1 Tryz.underlying43 (by kernel_rfl) (by kernel_rfl) (by kernel_rfl) rfl (by kernel_rfl) rfl rfl (src_vec (hS8.vec at0) (strs_one _)) (by unfold maxLen; omega) (by omega)) ?_
 rintro v33 H9 hS9
 clear hS8
 replace hS9 := hS9.del del0
 refine OpsW.q rfl (q_assign (v := v33) rfl) ?_
 refine OpsW.nil ?_
 refine BlockP.go ?_
 refine SeqP.go ?_
 refine AW.region ?_
 refine OpsW.q rfl (q_move (v := .int _ _) rfl) ?_
 refine OpsW.q rfl (q_addI rfl rfl (by omega)) ?_
 refine OpsW.q rfl (q_assign (v := .int _ _) rfl) ?_
 refine OpsW.nil ?_
 exact LoopP.go _ (by omega) ⟨i + 1, v33, _, rfl, (by omega), Slots.eq ⟨(by rfl), (by rfl), (by rfl), (by rfl), (by rfl), (by rfl),  trivial⟩, (by rw [padK_succ', strs_append]; exact hS9)⟩
theorem gtag_con {h first b s : List UInt8} (hh : h.length = 16) (hf : first.length = 16) (hb : b.length ≤ 1048576) (hs : s.length ≤ 1048576) : Con Tryz.prog w0 73 #[S h, .agg (nums .u64 (pair (beK first 16))).toArray, S b, S s] H (fun v H' => v = S (tagB h first b s) ∧ H' = H) := by
 have hS0 : Sep H [] H := Sep.refl
 have lb := flB_length' b
 have ls := flB_length' s
 have mb := flB_mod' b
 have ms := flB_mod' s
 have l1 := longB_length b.length
 have l2 := longB_length s.length
 have hp := pair_length (beK first 16)
 have hLl : (flB b ++ flB s ++ (longB b.length ++ longB s.length)).length = (flB b).length + (flB s).length + 16 := by rw [List.length_append, List.length_append, List.length_append, l1, l2]
 refine Con.intro Tryz.func73 rfl rfl ?_
 refine AW.seq ?_
 refine AW.region ?_
 refine OpsW.m rfl (s_boxN (k := .u64) hS0 rfl) ?_
 rintro _ H1 ⟨b5, rfl, hS1⟩
 clear hS0
 refine OpsW.q rfl (q_assign (v := S _) rfl) ?_
 refine OpsW.nil ?_
 refine SeqP.go ?_
 refine AW.seq ?_
 refine AW.region ?_
 refine OpsW.q rfl (q_move (v := S _) rfl) ?_
 refine OpsW.q rfl (q_move (v := S _) rfl) ?_
 refine OpsW.q rfl (o_call rfl Tryz.func99 rfl rfl (filled_con (by omega))) ?_
 refine OpsW.q rfl (q_move (v := S _) rfl) ?_
 refine OpsW.q rfl (o_call rfl Tryz.func99 rfl rfl (filled_con (by omega))) ?_
 refine OpsW.q rfl (q_cat rfl rfl (by omega)) ?_
 refine OpsW.q rfl (q_move (v := S _) rfl) ?_
 refine OpsW.q rfl (q_lenS Tryz.underlying9 rfl) ?_
 refine OpsW.q rfl (q_mulI rfl rfl (by omega)) ?_
 refine OpsW.q rfl (q_convInt rfl Tryz.underlying108 rfl) ?_
 refine OpsW.q rfl (q_move (v := S _) rfl) ?_
 refine OpsW.q rfl (q_lenS Tryz.underlying9 rfl) ?_
 refine OpsW.q rfl (q_mulI rfl rfl (by omega)) ?_
 refine OpsW.q rfl (q_convInt rfl Tryz.underlying108 rfl) ?_
 refine OpsW.q rfl (q_buildN (k := .u64) [_, _] rfl (by kernel_rfl)) ?_
 rw [long_pair b s (by omega) (by omega)]
 refine OpsW.q rfl (o_call rfl Tryz.func100 rfl rfl (gString_con (by omega))) ?_
 rw [long_two b.length (by omega)]
 have l3 : (longB b.length ++ longB s.length).length = 16 := by rw [List.length_append, l1, l2]
 have l4 : (flB b ++ flB s).length = (flB b).length + (flB s).length := List.length_append
 refine OpsW.q rfl (q_cat rfl rfl (by omega)) ?_
 refine OpsW.q rfl (o_call rfl Tryz.func98 rfl rfl (Hash_con (by omega))) ?_
 rw [hashP_ok hh (by omega)]
 refine OpsW.q rfl (q_move (v := .tuple _) rfl) ?_
 refine OpsW.q rfl (q_extract (v := S _) rfl rfl) ?_
 refine OpsW.q rfl (q_extract (v := .int _ _) rfl rfl) ?_
 refine OpsW.q rfl (q_assign (v := S _) rfl) ?_
 refine OpsW.q rfl (q_assign (v := .int _ _) rfl) ?_
 refine OpsW.nil ?_
 refine SeqP.go ?_
 refine AW.seq ?_
 refine AW.drawK [] 3 rfl (by kernel_rfl) ?_
 refine SeqK.q rfl (q_move (v := S _) rfl) ?_
 refine SeqK.q rfl (o_call rfl Tryz.func97 rfl rfl (gof_con (by rw [hashB_length']; exact Nat.le_refl _))) ?_
 refine SeqK.q rfl (q_loadAN (n := 2) (k := .u64) (by kernel_rfl) rfl (hS1.blk at0) (by with_reducible assumption)) ?_
 refine SeqK.done ?_
 refine OpsW.q rfl (o_call rfl Tryz.func101 rfl rfl (gwith_con (beK_lt128 _) (beK_lt128 _))) ?_
 refine OpsW.q rfl (o_call rfl Tryz.func100 rfl rfl (gString_con (Nat.xor_lt_two_pow (beK_lt128 _) (beK_lt128 _)))) ?_
 refine OpsW.q rfl (q_assign (v := S _) rfl) ?_
 refine OpsW.nil ?_
 refine SeqP.go ?_
 refine AW.ret ?_
 refine RetP.mk1 (H' := H) (v1 := S _) rfl rfl  hS1.le ?_
 exact ⟨by rw [tag_fin' b s hf], rfl⟩
theorem gSeal_con {key nonce b d : List UInt8} (hb : b.length ≤ 4294967296) (hd : d.length ≤ 4294967296) : Con Tryz.prog w0 58 #[S key, S nonce, S b, S d] H (fun v H' => v = .tuple #[S (sealP key nonce b d).1, .int .i64 (sealP key nonce b d).2] ∧ H' = H) := by
 have hS0 : Sep H [] H := Sep.refl
 refine Con.intro Tryz.func58 rfl rfl ?_
 refine AW.seq ?_
 refine AW.region ?_
 refine OpsW.q rfl (q_assign (v := S _) rfl) ?_
 refine OpsW.q rfl (q_assign (v := .int _ _) rfl) ?_
 refine OpsW.nil ?_
 refine SeqP.go ?_
 refine AW.seq ?_
 refine AW.block ?_
 refine AW.seq ?_
 refine AW.region ?_
 refine OpsW.q rfl (q_move (v := S _) rfl) ?_
 refine OpsW.q rfl (q_lenS Tryz.underlying9 rfl) ?_
 refine OpsW.q rfl (q_neq rfl rfl) ?_
 refine OpsW.qb rfl (q_move (v := .bool _) rfl) ?_
 intro b18 eb18
 refine OpsW.g rfl rfl rfl (fun hB => by simp only [Bool.and_eq_true, beq_iff_eq] at hB; obtain rfl := hB; exact (q_move (v := S _) rfl)) ?_
 refine OpsW.g rfl rfl rfl (fun hB => by simp only [Bool.and_eq_true, beq_iff_eq] at hB; obtain rfl := hB; exact (q_lenS Tryz.underlying9 rfl)) ?_
 refine OpsW.g rfl rfl rfl (fun hB => by simp only [Bool.and_eq_true, beq_iff_eq] at hB; obtain rfl := hB; exact (q_neq rfl rfl)) ?_
 refine OpsW.q rfl (q_or2 rfl rfl rfl) ?_
 refine OpsW.q rfl (q_assign (v := .bool _) rfl) ?_
 refine OpsW.nil ?_
 refine SeqP.go ?_
 refine AW.cond rfl (fun h0 => ?_) (fun h0 => ?_)
 ·
  try simp only [eb18, z1, z2, z3, z4, z5, z6, z7, z8, z9, z10, z11, z12, z13, z14] at h0
  rw [sealP_key (by omega)]
  refine AW.seq ?_
  refine AW.region ?_
  refine OpsW.q rfl (q_assign (v := S _) rfl) ?_
  refine OpsW.q rfl (q_assign (v := .int _ _) rfl) ?_
  refine OpsW.nil ?_
  refine SeqP.go ?_
  refine AW.ret ?_
  refine BlockP.ret ?_
  refine SeqP.ret ?_
  refine RetP.mk2 (H' := H) (v1 := S _) (v2 := .int _ _) rfl rfl rfl  hS0.le ?_
  exact ⟨rfl, rfl⟩
 try simp only [eb18, z1, z2, z3, z4, z5, z6, z7, z8, z9, z10, z11, z12, z13, z14] at h0
 have hkn : key.length = 16 ∧ nonce.length = 12 := by omega
 refine AW.seq ?_
 refine AW.region ?_
 refine OpsW.q rfl (q_move (v := S _) rfl) ?_
 refine OpsW.q rfl (q_lenS Tryz.underlying9 rfl) ?_
 refine OpsW.q rfl (q_gtr rfl rfl) ?_
 refine OpsW.qb rfl (q_move (v := .bool _) rfl) ?_
 intro b27 eb27
 refine OpsW.g rfl rfl rfl (fun hB => by simp only [Bool.and_eq_true, beq_iff_eq] at hB; obtain rfl := hB; exact (q_move (v := S _) rfl)) ?_
 refine OpsW.g rfl rfl rfl (fun hB => by simp only [Bool.and_eq_true, beq_iff_eq] at hB; obtain rfl := hB; exact (q_lenS Tryz.underlying9 rfl)) ?_
 refine OpsW.g rfl rfl rfl (fun hB => by simp only [Bool.and_eq_true, beq_iff_eq] at hB; obtain rfl := hB; exact (q_gtr rfl rfl)) ?_
 refine OpsW.q rfl (q_or2 rfl rfl rfl) ?_
 refine OpsW.q rfl (q_assign (v := .bool _) rfl) ?_
 refine OpsW.nil ?_
 refine SeqP.go ?_
 refine AW.cond rfl (fun h1 => ?_) (fun h1 => ?_)
 ·
  try simp only [eb18, eb27, z1, z2, z3, z4, z5, z6, z7, z8, z9, z10, z11, z12, z13, z14] at h1
  rw [sealP_big hkn (by omega)]
  refine AW.seq ?_
  refine AW.region ?_
  refine OpsW.q rfl (q_assign (v := S _) rfl) ?_
  refine OpsW.q rfl (q_assign (v := .int _ _) rfl) ?_
  refine OpsW.nil ?_
  refine SeqP.go ?_
  refine AW.ret ?_
  refine BlockP.ret ?_
  refine SeqP.ret ?_
  refine RetP.mk2 (H' := H) (v1 := S _) (v2 := .int _ _) rfl rfl rfl  hS0.le ?_
  exact ⟨rfl, rfl⟩
 try simp only [eb18, eb27, z1, z2, z3, z4, z5, z6, z7, z8, z9, z10, z11, z12, z13, z14] at h1
 have hbd : ¬ (1048576 < b.length ∨ 1048576 < d.length) := by omega
 have ho := overK_length' key nonce ((d.length + 15) / 16)
 have hsl := strmB_length' key nonce d
 have hgl := gtag_length' key nonce b (strmB key nonce d)
 have hp := pair_length (beK (blkA key (ctrB nonce 1)) 16)
 have hld : (laidB d (overK key nonce ((d.length + 15) / 16))).length = d.length := laidB_length' _ _
 refine AW.skip ?_
 refine BlockP.go ?_
 refine SeqP.go ?_
 refine AW.seq ?_
 refine AW.region ?_
 refine OpsW.q rfl (q_move (v := S _) rfl) ?_
 refine OpsW.q rfl (q_move (v := S _) rfl) ?_
 refine OpsW.q rfl (q_move (v := S _) rfl) ?_
 refine OpsW.q rfl (q_lenS Tryz.underlying9 rfl) ?_
 refine OpsW.q rfl (o_call rfl Tryz.func72 rfl rfl (pads_con hkn.1 hkn.2 (by omega))) ?_
 refine OpsW.q rfl (q_move (v := .tuple _) rfl) ?_
 refine OpsW.q rfl (q_extract (v := S _) rfl rfl) ?_
 refine OpsW.q rfl (q_extract (v := .agg _) rfl rfl) ?_
 refine OpsW.q rfl (q_extract (v := S _) rfl rfl) ?_
 refine OpsW.m rfl (s_allocN (k := .u64) (m := 2) hS0 (by kernel_rfl)) ?_
 rintro _ H1 ⟨b11, rfl, hS1⟩
 clear hS0
 refine OpsW.q rfl (q_assign (v := S _) rfl) ?_
 refine OpsW.ms (s_storeA (n := 2) (k := .u64) hS1 at0 (by kernel_rfl) rfl rfl (by with_reducible assumption) (by rfl)) ?_
 rintro _ H2 ⟨rfl, hS2⟩
 clear hS1
 refine OpsW.q rfl (q_assign (v := S _) rfl) ?_
 refine OpsW.nil ?_
 refine SeqP.go ?_
 refine AW.seq ?_
 refine AW.region ?_
 refine OpsW.q rfl (q_move (v := S _) rfl) ?_
 refine OpsW.q rfl (q_move (v := S _) rfl) ?_
 refine OpsW.q rfl (o_call rfl Tryz.func74 rfl rfl (laid_con (by omega) (by omega))) ?_
 rw [← strmB_eq key nonce d]
 refine OpsW.q rfl (q_assign (v := S _) rfl) ?_
 refine OpsW.nil ?_
 refine SeqP.go ?_
 refine AW.seq ?_
 refine AW.region ?_
 refine OpsW.q rfl (q_move (v := S _) rfl) ?_
 refine OpsW.q rfl (q_move (v := S _) rfl) ?_
 refine OpsW.q rfl (q_loadAN (n := 2) (k := .u64) (by kernel_rfl) rfl (hS2.blk at0) (by with_reducible assumption)) ?_
 refine OpsW.q rfl (q_move (v := S _) rfl) ?_
 refine OpsW.q rfl (q_move (v := S _) rfl) ?_
 refine OpsW.q rfl (o_call rfl Tryz.func73 rfl rfl (gtag_con (blkA_length _ _) (blkA_length _ _) (by omega) (by omega))) ?_
 rw [← gtag_eq key nonce b (strmB key nonce d)]
 refine OpsW.q rfl (q_cat rfl rfl (by omega)) ?_
 refine OpsW.q rfl (q_assign (v := S _) rfl) ?_
 refine OpsW.q rfl (q_assign (v := .int _ _) rfl) ?_
 refine OpsW.nil ?_
 refine SeqP.go ?_
 refine AW.ret ?_
 refine RetP.mk2 (H' := H) (v1 := S _) (v2 := .int _ _) rfl rfl rfl  hS2.le ?_
 rw [sealP_ok hkn hbd]
 exact ⟨rfl, rfl⟩
end
end Go.Proofs.YtfpoldogcopmpaaGreatDoor
end
