/-
 The proof's texts, joined, without what the statements do not reach: part 4 of 9. No condition.
-/
import Derived.Test.YtfpoldogcopmpaaGreatDoorCards
import Derived.Test.YtfpoldogcopmpaaGreatDoorTie
import Derived.WalkKit
import Derived.KernelRfl
import Derived.Lib.ConvBytes
import Derived.WalkSpells
import Derived.WalkLawsBesides
import Derived.ProofKit
import Derived.ChangeMaps5
import Derived.ChangeSlices
import Derived.Deep.Strs
import Derived.Handed
import Derived.LaidLaws
import Derived.LaidMore
import Derived.Lay
import Derived.SevenTiedAt
import Derived.Stop.Joined
import Derived.DataElems
import Derived.OpenShut
import Derived.Test.YtfpoldogcopmpaaGreatDoorProg
import Derived.Lib.TrimByte
import Derived.Shelf.Bits.Mul64
import Derived.Shelf.Small.Strs
import Derived.Shelf.Small.Utf8
import Derived.Shelf.Strings.AsciiSet
import Derived.Shelf.Strings.Builder1
import Derived.Shelf.Strings.Builder2
import Derived.Shelf.Strings.Builder2Cap
import Derived.Shelf.Strings.BuilderF
import Derived.Shelf.Strings.Prefix
import Derived.Shelf.Strings.Repeat
import Derived.Shelf.Strings.Runes
import Derived.Shelf.Strings.Search1
import Derived.Shelf.Strings.Trim
import Derived.Shelf.Unicode.Decode
import Derived.Shelf.Unicode.DecodeAny
import Derived.Shelf.Unicode.DecodeLast
import Derived.Shelf.Unicode.DecodeSlow
import Derived.Test.YtfpoldogcopmpaaGreatDoorKc
section
namespace Go.Proofs.YtfpoldogcopmpaaGreatDoor
open Go Go.RowKit D
set_option linter.unusedVariables false
set_option linter.unusedSimpArgs false
set_option maxRecDepth 100000
set_option maxHeartbeats 2000000
section
variable {w0 : World} {H : Hp} {H0 : Hp}
theorem timesR_con {a b : Nat} (ha : a < 256) (hb : b < 256) : Con Tryz.prog w0 90 #[.int .i64 ((a : Nat) : Int), .int .i64 ((b : Nat) : Int)] H (fun v H' => v = .int .i64 ((tmN a b : Nat) : Int) ∧ H' = H) := by
 have hS0 : Sep H [] H := Sep.refl
 refine Con.intro Tryz.func90 rfl rfl ?_
 refine AW.seq ?_
 refine AW.region ?_
 refine OpsW.q rfl (q_assign (v := .int _ _) rfl) ?_
 refine OpsW.nil ?_
 refine SeqP.go ?_
 refine AW.seq ?_
 refine AW.region ?_
 refine OpsW.q rfl (q_assign (v := .int _ _) rfl) ?_
 refine OpsW.nil ?_
 refine SeqP.go ?_
 refine AW.seq ?_
 refine AW.seq ?_
 refine AW.region ?_
 refine OpsW.q rfl (q_assign (v := .int _ _) rfl) ?_
 refine OpsW.nil ?_
 refine SeqP.go ?_
 refine AW.block ?_
 refine AW.loop (fun m_ e_ H_ => ∃ (j : Nat) (e0 : Env), m_ = 8 - j ∧ (j ≤ 8) ∧ e_ = upds e0 [(0, .int .i64 ((twI a j : Nat) : Int)), (1, .int .i64 ((b : Nat) : Int)), (5, .int .i64 ((tmK a b j : Nat) : Int)), (6, .int .i64 (j : Int))] ∧ Sep H [] H_) _ ⟨0, _, rfl, (by omega), Slots.eq ⟨(by rfl), (by rfl), (by rfl), (by rfl),  trivial⟩, hS0⟩ ?_
 rintro m_ _ Hl0 ⟨j, e0, rfl, hf, rfl, hSl0⟩
 try clear hS0
 have hw := twI_lt ha j
 refine AW.seq ?_
 refine AW.seq ?_
 refine AW.region ?_
 refine OpsW.q rfl (q_move (v := .int _ _) rfl) ?_
 refine OpsW.q rfl (q_lss rfl rfl) ?_
 refine OpsW.nil ?_
 refine SeqP.go ?_
 refine AW.cond2 rfl (fun h0 => ?_) (fun h0 => ?_)
 ·
  try simp only [z1, z2, z3, z4, z5, z6, z7, z8, z9, z10, z11, z12, z13, z14] at h0
  refine AW.exit ?_
  refine SeqP.exit ?_
  refine LoopP.exit ?_
  obtain rfl : j = 8 := by omega
  refine BlockP.here ?_
  refine SeqP.go ?_
  refine AW.seq ?_
  refine AW.region ?_
  refine OpsW.q rfl (q_move (v := .int _ _) rfl) ?_
  refine OpsW.q rfl (q_assign (v := .int _ _) rfl) ?_
  refine OpsW.nil ?_
  refine SeqP.go ?_
  refine AW.ret ?_
  refine RetP.mk1 (H' := H) (v1 := .int _ _) rfl rfl  hSl0.le ?_
  exact ⟨by rw [tmN_eq], rfl⟩
 try simp only [z1, z2, z3, z4, z5, z6, z7, z8, z9, z10, z11, z12, z13, z14] at h0
 refine AW.skip ?_
 refine SeqP.go ?_
 refine AW.seq ?_
 refine AW.block ?_
 refine AW.seq ?_
 refine AW.seq ?_
 refine AW.region ?_
 refine OpsW.q rfl (q_move (v := .int _ _) rfl) ?_
 refine OpsW.q rfl (q_move (v := .int _ _) rfl) ?_
 refine OpsW.q rfl (q_shr rfl rfl (by omega)) ?_
 refine OpsW.q rfl (q_and rfl rfl) ?_
 refine OpsW.q rfl (q_eql rfl rfl) ?_
 refine OpsW.nil ?_
 refine SeqP.go ?_
 refine AW.cond rfl (fun h1 => ?_) (fun h1 => ?_)
 ·
  try simp only [z1, z2, z3, z4, z5, z6, z7, z8, z9, z10, z11, z12, z13, z14] at h1
  rw [bit_test hb (by omega)] at h1
  have hbit : b / 2 ^ j % 2 = 1 := by revert h1; generalize b / 2 ^ j = q; intro h1; omega
  refine AW.region ?_
  refine OpsW.q rfl (q_move (v := .int _ _) rfl) ?_
  refine OpsW.q rfl (q_move (v := .int _ _) rfl) ?_
  refine OpsW.q rfl (q_xor rfl rfl) ?_
  refine OpsW.q rfl (q_assign (v := .int _ _) rfl) ?_
  refine OpsW.nil ?_
  refine SeqP.go ?_
  refine AW.seq ?_
  refine AW.region ?_
  refine OpsW.q rfl (q_move (v := .int _ _) rfl) ?_
  refine OpsW.q rfl (q_mulI rfl rfl (by omega)) ?_
  refine OpsW.q rfl (q_assign (v := .int _ _) rfl) ?_
  refine OpsW.nil ?_
  refine SeqP.go ?_
  refine AW.seq ?_
  refine AW.region ?_
  refine OpsW.q rfl (q_move (v := .int _ _) rfl) ?_
  refine OpsW.q rfl (q_gtr rfl rfl) ?_
  refine OpsW.nil ?_
  refine SeqP.go ?_
  refine AW.cond rfl (fun h2 => ?_) (fun h2 => ?_)
  ·
   try simp only [z1, z2, z3, z4, z5, z6, z7, z8, z9, z10, z11, z12, z13, z14] at h2
   refine AW.region ?_
   refine OpsW.q rfl (q_move (v := .int _ _) rfl) ?_
   refine OpsW.q rfl (q_xor rfl rfl) ?_
   refine OpsW.q rfl (q_assign (v := .int _ _) rfl) ?_
   refine OpsW.nil ?_
   refine BlockP.go ?_
   refine SeqP.go ?_
   refine AW.region ?_
   refine OpsW.q rfl (q_move (v := .int _ _) rfl) ?_
   refine OpsW.q rfl (q_addI rfl rfl (by omega)) ?_
   refine OpsW.q rfl (q_assign (v := .int _ _) rfl) ?_
   refine OpsW.nil ?_
   exact LoopP.go _ (by omega) ⟨j + 1, _, rfl, (by omega), Slots.eq ⟨(by first | exact congrArg (Value.int .i64) (double_hi hw h2) | exact congrArg (Value.int .i64) (double_lo hw h2)), (by rfl), (by first | (rw [← tmK_set ha hbit]; rfl) | (rw [← tmK_skip hbit]; rfl)), (by rfl),  trivial⟩, hSl0⟩
  try simp only [z1, z2, z3, z4, z5, z6, z7, z8, z9, z10, z11, z12, z13, z14] at h2
  have h2 : ¬ (255 : Int) < ((twI a j : Nat) : Int) * 2 := by omega
  refine AW.skip ?_
  refine BlockP.go ?_
  refine SeqP.go ?_
  refine AW.region ?_
  refine OpsW.q rfl (q_move (v := .int _ _) rfl) ?_
  refine OpsW.q rfl (q_addI rfl rfl (by omega)) ?_
  refine OpsW.q rfl (q_assign (v := .int _ _) rfl) ?_
  refine OpsW.nil ?_
  exact LoopP.go _ (by omega) ⟨j + 1, _, rfl, (by omega), Slots.eq ⟨(by first | exact congrArg (Value.int .i64) (double_hi hw h2) | exact congrArg (Value.int .i64) (double_lo hw h2)), (by rfl), (by first | (rw [← tmK_set ha hbit]; rfl) | (rw [← tmK_skip hbit]; rfl)), (by rfl),  trivial⟩, hSl0⟩
 try simp only [z1, z2, z3, z4, z5, z6, z7, z8, z9, z10, z11, z12, z13, z14] at h1
 rw [bit_test hb (by omega)] at h1
 have hbit : b / 2 ^ j % 2 = 0 := by revert h1; generalize b / 2 ^ j = q; intro h1; omega
 refine AW.skip ?_
 refine SeqP.go ?_
 refine AW.seq ?_
 refine AW.region ?_
 refine OpsW.q rfl (q_move (v := .int _ _) rfl) ?_
 refine OpsW.q rfl (q_mulI rfl rfl (by omega)) ?_
 refine OpsW.q rfl (q_assign (v := .int _ _) rfl) ?_
 refine OpsW.nil ?_
 refine SeqP.go ?_
 refine AW.seq ?_
 refine AW.region ?_
 refine OpsW.q rfl (q_move (v := .int _ _) rfl) ?_
 refine OpsW.q rfl (q_gtr rfl rfl) ?_
 refine OpsW.nil ?_
 refine SeqP.go ?_
 refine AW.cond rfl (fun h2 => ?_) (fun h2 => ?_)
 ·
  try simp only [z1, z2, z3, z4, z5, z6, z7, z8, z9, z10, z11, z12, z13, z14] at h2
  refine AW.region ?_
  refine OpsW.q rfl (q_move (v := .int _ _) rfl) ?_
  refine OpsW.q rfl (q_xor rfl rfl) ?_
  refine OpsW.q rfl (q_assign (v := .int _ _) rfl) ?_
  refine OpsW.nil ?_
  refine BlockP.go ?_
  refine SeqP.go ?_
  refine AW.region ?_
  refine OpsW.q rfl (q_move (v := .int _ _) rfl) ?_
  refine OpsW.q rfl (q_addI rfl rfl (by omega)) ?_
  refine OpsW.q rfl (q_assign (v := .int _ _) rfl) ?_
  refine OpsW.nil ?_
  exact LoopP.go _ (by omega) ⟨j + 1, _, rfl, (by omega), Slots.eq ⟨(by first | exact congrArg (Value.int .i64) (double_hi hw h2) | exact congrArg (Value.int .i64) (double_lo hw h2)), (by rfl), (by first | (rw [← tmK_set ha hbit]; rfl) | (rw [← tmK_skip hbit]; rfl)), (by rfl),  trivial⟩, hSl0⟩
 try simp only [z1, z2, z3, z4, z5, z6, z7, z8, z9, z10, z11, z12, z13, z14] at h2
 have h2 : ¬ (255 : Int) < ((twI a j : Nat) : Int) * 2 := by omega
 refine AW.skip ?_
 refine BlockP.go ?_
 refine SeqP.go ?_
 refine AW.region ?_
 refine OpsW.q rfl (q_move (v := .int _ _) rfl) ?_
 refine OpsW.q rfl (q_addI rfl rfl (by omega)) ?_
 refine OpsW.q rfl (q_assign (v := .int _ _) rfl) ?_
 refine OpsW.nil ?_
 exact LoopP.go _ (by omega) ⟨j + 1, _, rfl, (by omega), Slots.eq ⟨(by first | exact congrArg (Value.int .i64) (double_hi hw h2) | exact congrArg (Value.int .i64) (double_lo hw h2)), (by rfl), (by first | (rw [← tmK_set ha hbit]; rfl) | (rw [← tmK_skip hbit]; rfl)), (by rfl),  trivial⟩, hSl0⟩
theorem stirred_con (c : UInt8) : Con Tryz.prog w0 91 #[.int .i64 ((c.toNat : Nat) : Int)] H (fun v H' => v = BV (stK c 5) ∧ H' = H) := by
 have hS0 : Sep H [] H := Sep.refl
 refine Con.intro Tryz.func91 rfl rfl ?_
 refine AW.seq ?_
 refine AW.region ?_
 refine OpsW.q rfl (q_assign (v := .int _ _) rfl) ?_
 refine OpsW.nil ?_
 refine SeqP.go ?_
 refine AW.seq ?_
 refine AW.region ?_
 refine OpsW.q rfl (q_assign (v := .int _ _) rfl) ?_
 refine OpsW.nil ?_
 refine SeqP.go ?_
 refine AW.seq ?_
 refine AW.seq ?_
 refine AW.region ?_
 refine OpsW.q rfl (q_assign (v := .int _ _) rfl) ?_
 refine OpsW.nil ?_
 refine SeqP.go ?_
 refine AW.block ?_
 refine AW.loop (fun m_ e_ H_ => ∃ (i : Nat) (e0 : Env), m_ = 5 - i ∧ (i ≤ 5) ∧ e_ = upds e0 [(0, .int .i64 ((c.toNat : Nat) : Int)), (3, .int .i64 (((stK c i).toNat : Nat) : Int)), (4, .int .i64 (i : Int))] ∧ Sep H [] H_) _ ⟨0, _, rfl, (by omega), Slots.eq ⟨(by rfl), (by rw [stK_zero]; rfl), (by rfl),  trivial⟩, hS0⟩ ?_
 rintro m_ _ Hl0 ⟨i, e0, rfl, hf, rfl, hSl0⟩
 try clear hS0
 refine AW.seq ?_
 refine AW.seq ?_
 refine AW.region ?_
 refine OpsW.q rfl (q_move (v := .int _ _) rfl) ?_
 refine OpsW.q rfl (q_lss rfl rfl) ?_
 refine OpsW.nil ?_
 refine SeqP.go ?_
 refine AW.cond2 rfl (fun h0 => ?_) (fun h0 => ?_)
 ·
  try simp only [z1, z2, z3, z4, z5, z6, z7, z8, z9, z10, z11, z12, z13, z14] at h0
  refine AW.exit ?_
  refine SeqP.exit ?_
  refine LoopP.exit ?_
  obtain rfl : i = 5 := by omega
  refine BlockP.here ?_
  refine SeqP.go ?_
  refine AW.seq ?_
  refine AW.region ?_
  refine OpsW.q rfl (q_move (v := .int _ _) rfl) ?_
  refine OpsW.q rfl (q_convIB rfl Tryz.underlying5 rfl) ?_
  refine OpsW.q rfl (q_assign (v := .int _ _) rfl) ?_
  refine OpsW.nil ?_
  refine SeqP.go ?_
  refine AW.ret ?_
  refine RetP.mk1 (H' := H) (v1 := .int _ _) rfl rfl  hSl0.le ?_
  exact ⟨rfl, rfl⟩
 try simp only [z1, z2, z3, z4, z5, z6, z7, z8, z9, z10, z11, z12, z13, z14] at h0
 refine AW.skip ?_
 refine SeqP.go ?_
 refine AW.seq ?_
 refine AW.block ?_
 refine AW.drawK [] 10 rfl (by kernel_rfl) ?_
 refine SeqK.q rfl (q_move (v := .int _ _) rfl) ?_
 refine SeqK.q rfl (q_move (v := .int _ _) rfl) ?_
 refine SeqK.q rfl (q_move (v := .int _ _) rfl) ?_
 refine SeqK.q rfl (q_shl rfl rfl (by omega)) ?_
 refine SeqK.q rfl (q_move (v := .int _ _) rfl) ?_
 refine SeqK.q rfl (q_move (v := .int _ _) rfl) ?_
 refine SeqK.q rfl (q_subI rfl rfl (by omega)) ?_
 refine SeqK.q rfl (q_shr rfl rfl (by omega)) ?_
 refine SeqK.q rfl (q_or rfl rfl) ?_
 refine SeqK.q rfl (q_and rfl rfl) ?_
 refine SeqK.done ?_
 refine OpsW.q rfl (q_xor rfl rfl) ?_
 refine OpsW.q rfl (q_assign (v := .int _ _) rfl) ?_
 refine OpsW.nil ?_
 refine BlockP.go ?_
 refine SeqP.go ?_
 refine AW.region ?_
 refine OpsW.q rfl (q_move (v := .int _ _) rfl) ?_
 refine OpsW.q rfl (q_addI rfl rfl (by omega)) ?_
 refine OpsW.q rfl (q_assign (v := .int _ _) rfl) ?_
 refine OpsW.nil ?_
 exact LoopP.go _ (by omega) ⟨i + 1, _, rfl, (by omega), Slots.eq ⟨(by rfl), (by rw [stK_succ', ← st_step c _ (by omega)]; rfl), (by rfl),  trivial⟩, hSl0⟩
theorem tableR_con : Con Tryz.prog w0 59 #[] H (fun v H' => Sep H [.vec v 5 1 256 (nums .u8 (ofB (sbox)))] H') := by
 have hS0 : Sep H [] H := Sep.refl
 refine Con.intro Tryz.func59 rfl rfl ?_
 refine AW.seq ?_
 refine AW.region ?_
 refine OpsW.q rfl (q_assign (v := .slice _ _ _) rfl) ?_
 refine OpsW.nil ?_
 refine SeqP.go ?_
 refine AW.seq ?_
 refine AW.region ?_
 refine OpsW.q rfl (q_assign (v := .slice _ _ _) rfl) ?_
 refine OpsW.nil ?_
 refine SeqP.go ?_
 refine AW.seq ?_
 refine AW.region ?_
 refine OpsW.q rfl (q_assign (v := .int _ _) rfl) ?_
 refine OpsW.nil ?_
 refine SeqP.go ?_
 refine AW.seq ?_
 refine AW.seq ?_
 refine AW.region ?_
 refine OpsW.q rfl (q_assign (v := .int _ _) rfl) ?_
 refine OpsW.nil ?_
 refine SeqP.go ?_
 refine AW.block ?_
 replace hS0 := hS0.nil (el := 3) (sz := 1)
 refine AW.loop (fun m_ e_ H_ => ∃ (i : Nat) (vp : Value) (e0 : Env), m_ = 255 - i ∧ (i ≤ 255) ∧ e_ = upds e0 [(1, vp), (2, .int .i64 (((p3 i).toNat : Nat) : Int)), (3, .int .i64 (i : Int))] ∧ Sep H [.vec vp 3 1 i (nums .i64 (p3L i))] H_) _ ⟨0, nilV, _, rfl, (by omega), Slots.eq ⟨(by rfl), (by rw [p3_zero]; rfl), (by rfl),  trivial⟩, (by rw [p3L_zero']; exact hS0)⟩ ?_
 rintro m_ _ Hl0 ⟨i, vp, e0, rfl, hf, rfl, hSl0⟩
 try clear hS0
 refine AW.seq ?_
 refine AW.seq ?_
 refine AW.region ?_
 refine OpsW.q rfl (q_move (v := .int _ _) rfl) ?_
 refine OpsW.q rfl (q_lss rfl rfl) ?_
 refine OpsW.nil ?_
 refine SeqP.go ?_
 refine AW.cond2 rfl (fun h0 => ?_) (fun h0 => ?_)
 ·
  try simp only [z1, z2, z3, z4, z5, z6, z7, z8, z9, z10, z11, z12, z13, z14] at h0
  refine AW.exit ?_
  refine SeqP.exit ?_
  refine LoopP.exit ?_
  obtain rfl : i = 255 := by omega
  have hpl := p3L_length' 255
  refine BlockP.here ?_
  refine SeqP.go ?_
  refine AW.seq ?_
  refine AW.region ?_
  refine OpsW.m rfl (s_makeSliceB (by_ := 1) hSl0 Tryz.underlying35 (by kernel_rfl) (by kernel_rfl) (by kernel_rfl) rfl rfl (by omega) (by omega) (by omega) (by omega) (by unfold maxLen; omega)) ?_
  rintro v16 H1 hS1
  clear hSl0
  refine OpsW.q rfl (q_assign (v := v16) rfl) ?_
  refine OpsW.nil ?_
  refine SeqP.go ?_
  refine AW.seq ?_
  refine AW.region ?_
  refine OpsW.q rfl (q_move (v := v16) rfl) ?_
  refine OpsW.q rfl (q_indexV1 (hS1.vec at0) Tryz.underlying35 (by kernel_rfl) rfl rfl (by omega) (by omega)) ?_
  refine OpsW.ms (s_storeVB (c := 99) hS1 at0 (by kernel_rfl) rfl rfl (by simp only [nums_length, List.length_set, List.length_replicate, List.length_take, List.length_drop, List.length_append, List.length_cons, List.length_nil, ofB_length, toB_length]; omega)) ?_
  rintro _ H2 ⟨rfl, hS2⟩
  clear hS1
  refine OpsW.nil ?_
  refine SeqP.go ?_
  refine AW.seq ?_
  refine AW.seq ?_
  refine AW.region ?_
  refine OpsW.q rfl (q_assign (v := .int _ _) rfl) ?_
  refine OpsW.nil ?_
  refine SeqP.go ?_
  refine AW.block ?_
  refine AW.loop (fun m_ e_ H_ => ∃ (i : Nat) (vo : Value) (e0 : Env), m_ = 255 - i ∧ (i ≤ 255) ∧ e_ = upds e0 [(1, vp), (4, vo), (5, .int .i64 (i : Int))] ∧ Sep H [.vec vo 5 1 256 (nums .u8 (ofB (tabR i))), .vec vp 3 1 255 (nums .i64 (p3L 255))] H_) _ ⟨0, v16, _, rfl, (by omega), Slots.eq ⟨(by rfl), (by rfl), (by rfl),  trivial⟩, (by rw [tabR_zero']; exact hS2)⟩ ?_
  rintro m_ _ Hl1 ⟨i, vo, e0, rfl, hf, rfl, hSl1⟩
  try clear hS2
  have htl := tabR_length i
  have hg1 : (p3L 255).getD (i : Int).toNat 0 = (((p3 i).toNat : Nat) : Int) ∨ 255 ≤ i := by rw [Int.toNat_natCast]; exact if h : i < 255 then .inl (p3L_get' h) else .inr (by omega)
  have hg2 : (p3L 255).getD ((255 - (i : Int)) % 255).toNat 0 = (((p3 ((255 - i) % 255)).toNat : Nat) : Int) := by rw [show ((255 - (i : Int)) % 255).toNat = (255 - i) % 255 from by omega]; exact p3L_get' (Nat.mod_lt _ (by decide))
  have hb := (p3 i).toNat_lt
  refine AW.seq ?_
  refine AW.seq ?_
  refine AW.region ?_
  refine OpsW.q rfl (q_move (v := .int _ _) rfl) ?_
  refine OpsW.q rfl (q_lss rfl rfl) ?_
  refine OpsW.nil ?_
  refine SeqP.go ?_
  refine AW.cond2 rfl (fun h1 => ?_) (fun h1 => ?_)
  ·
   try simp only [z1, z2, z3, z4, z5, z6, z7, z8, z9, z10, z11, z12, z13, z14] at h1
   refine AW.exit ?_
   refine SeqP.exit ?_
   refine LoopP.exit ?_
   obtain rfl : i = 255 := by omega
   rw [tabR_fin] at hSl1
   refine BlockP.here ?_
   refine SeqP.go ?_
   refine AW.seq ?_
   refine AW.region ?_
   refine OpsW.q rfl (q_move (v := vo) rfl) ?_
   refine OpsW.q rfl (q_assign (v := vo) rfl) ?_
   refine OpsW.nil ?_
   refine SeqP.go ?_
   refine AW.ret ?_
   refine RetP.mk1 (H' := Hl1) (v1 := vo) rfl rfl  (Hp.le_refl _) ?_
   exact hSl1.del del1
  try simp only [z1, z2, z3, z4, z5, z6, z7, z8, z9, z10, z11, z12, z13, z14] at h1
  replace hg1 := hg1.resolve_right (by omega)
  refine AW.skip ?_
  refine SeqP.go ?_
  refine AW.seq ?_
  refine AW.block ?_
  refine AW.drawK [] 12 rfl (by kernel_rfl) ?_
  refine SeqK.q rfl (q_move (v := vo) rfl) ?_
  refine SeqK.q rfl (q_move (v := vp) rfl) ?_
  refine SeqK.q rfl (q_move (v := .int _ _) rfl) ?_
  refine SeqK.q rfl (q_indexV1 (hSl1.vec at1) Tryz.underlying104 (by kernel_rfl) rfl rfl (by omega) (by omega)) ?_
  refine SeqK.q rfl (q_loadVN (hSl1.vec at1) (by kernel_rfl) rfl (by omega)) ?_
  rw [hg1]
  refine SeqK.q rfl (q_move (v := vp) rfl) ?_
  refine SeqK.q rfl (q_move (v := .int _ _) rfl) ?_
  refine SeqK.q rfl (q_subI rfl rfl (by omega)) ?_
  refine SeqK.q rfl (q_remI rfl rfl (by omega)) ?_
  refine SeqK.q rfl (q_indexV1 (hSl1.vec at1) Tryz.underlying104 (by kernel_rfl) rfl rfl (by omega) (by omega)) ?_
  refine SeqK.q rfl (q_loadVN (hSl1.vec at1) (by kernel_rfl) rfl (by omega)) ?_
  rw [hg2]
  refine SeqK.q rfl (o_call rfl Tryz.func91 rfl rfl (stirred_con (p3 ((255 - i) % 255)))) ?_
  refine SeqK.done ?_
  refine OpsW.q rfl (q_indexV1 (hSl1.vec at0) Tryz.underlying35 (by kernel_rfl) rfl rfl (by omega) (by omega)) ?_
  refine OpsW.ms (s_storeVB hSl1 at0 (by kernel_rfl) rfl rfl (by omega)) ?_
  rintro _ H3 ⟨rfl, hS3⟩
  clear hSl1
  refine OpsW.nil ?_
  refine BlockP.go ?_
  refine SeqP.go ?_
  refine AW.region ?_
  refine OpsW.q rfl (q_move (v := .int _ _) rfl) ?_
  refine OpsW.q rfl (q_addI rfl rfl (by omega)) ?_
  refine OpsW.q rfl (q_assign (v := .int _ _) rfl) ?_
  refine OpsW.nil ?_
  exact LoopP.go _ (by omega) ⟨i + 1, vo, _, rfl, (by omega), Slots.eq ⟨(by rfl), (by rfl), (by rfl),  trivial⟩, (by rw [tabR_succ']; exact hS3)⟩
 try simp only [z1, z2, z3, z4, z5, z6, z7, z8, z9, z10, z11, z12, z13, z14] at h0
 refine AW.skip ?_
 refine SeqP.go ?_
 refine AW.seq ?_
 refine AW.block ?_
 refine AW.seq ?_
 refine AW.region ?_
 refine OpsW.q rfl (q_move (v := vp) rfl) ?_
 refine OpsW.q rfl (q_move (v := .int _ _) rfl) ?_
 refine OpsW.m rfl (s_buildSlice (z := .int .i64 0) (vs := nums .i64 [_]) hSl0 Tryz.underlying104 (by kernel_rfl) (by kernel_rfl) rfl (by rfl) (by rfl) (by decide) rfl (nums_one _ _) rfl) ?_
 rintro v12 H4 hS4
 clear hSl0
 refine OpsW.m rfl (s_append (sz := 1) (by_ := 8) (z := .int .i64 0) hS4 at1 Tryz.underlying104 (by kernel_rfl) (by kernel_rfl) (by kernel_rfl) rfl (by kernel_rfl) rfl rfl (src_vec (hS4.vec at0) (nums_one _ _)) (by unfold maxLen; omega) (by omega)) ?_
 rintro v13 H5 hS5
 clear hS4
 replace hS5 := hS5.del del0
 refine OpsW.q rfl (q_assign (v := v13) rfl) ?_
 refine OpsW.nil ?_
 refine SeqP.go ?_
 refine AW.region ?_
 refine OpsW.q rfl (q_move (v := .int _ _) rfl) ?_
 refine OpsW.q rfl (o_call rfl Tryz.func90 rfl rfl (timesR_con (p3 i).toNat_lt (by decide))) ?_
 refine OpsW.q rfl (q_assign (v := .int _ _) rfl) ?_
 refine OpsW.nil ?_
 refine BlockP.go ?_
 refine SeqP.go ?_
 refine AW.region ?_
 refine OpsW.q rfl (q_move (v := .int _ _) rfl) ?_
 refine OpsW.q rfl (q_addI rfl rfl (by omega)) ?_
 refine OpsW.q rfl (q_assign (v := .int _ _) rfl) ?_
 refine OpsW.nil ?_
 exact LoopP.go _ (by omega) ⟨i + 1, v13, _, rfl, (by omega), Slots.eq ⟨(by rfl), (by rw [p3_succ', tm_toNat]; rfl), (by rfl),  trivial⟩, (by rw [p3L_succ', nums_append]; exact hS5)⟩
theorem keysR_con {key : List UInt8} {vs : Value} (hVs : Vec H 5 1 vs 256 (nums .u8 (ofB sbox))) (hk : key.length = 16) : Con Tryz.prog w0 60 #[S key, vs] H (fun v H' => Sep H [.vec v 9 1 11 (strs (keysS (keysL key) 11))] H') := by
 have hS0 : Sep H [] H := Sep.refl
 refine Con.intro Tryz.func60 rfl rfl ?_
 refine AW.seq ?_
 refine AW.region ?_
 refine OpsW.q rfl (q_assign (v := .slice _ _ _) rfl) ?_
 refine OpsW.nil ?_
 refine SeqP.go ?_
 refine AW.seq ?_
 refine AW.region ?_
 refine OpsW.q rfl (q_move (v := S _) rfl) ?_
 refine OpsW.m rfl (s_bytes hS0 rfl Tryz.underlying35 Tryz.underlying5 rfl (by unfold maxLen; omega)) ?_
 rintro v13 H1 hS1
 clear hS0
 refine OpsW.q rfl (q_assign (v := v13) rfl) ?_
 refine OpsW.nil ?_
 refine SeqP.go ?_
 refine AW.seq ?_
 refine AW.region ?_
 refine OpsW.q rfl (q_assign (v := .int _ _) rfl) ?_
 refine OpsW.nil ?_
 refine SeqP.go ?_
 refine AW.seq ?_
 refine AW.seq ?_
 refine AW.region ?_
 refine OpsW.q rfl (q_assign (v := .int _ _) rfl) ?_
 refine OpsW.nil ?_
 refine SeqP.go ?_
 refine AW.block ?_
 refine AW.loop (fun m_ e_ H_ => ∃ (j : Nat) (vw : Value) (e0 : Env), m_ = 40 - j ∧ (j ≤ 40) ∧ e_ = upds e0 [(1, vs), (5, vw), (6, .int .i64 (((expS key j).2.toNat : Nat) : Int)), (7, .int .i64 ((4 + j : Nat) : Int))] ∧ Sep H [.vec vw 5 1 ((16 + 4 * j)) (nums .u8 (ofB (expS key j).1))] H_) _ ⟨0, v13, _, rfl, (by omega), Slots.eq ⟨(by rfl), (by rfl), (by rw [expS_zero]; rfl), (by rfl),  trivial⟩, (by rw [expS_zero]; have hq := hS1; rw [hk] at hq; exact hq)⟩ ?_
 rintro m_ _ Hl0 ⟨j, vw, e0, rfl, hf, rfl, hSl0⟩
 try clear hS1
 have hx := expS_length key j
 have hsb := sbox_length
 have ho4 : (4 * ((4 + j : Nat) : Int) - 4).toNat = (expS key j).1.length - 4 := by omega
 have ho3 : (4 * ((4 + j : Nat) : Int) - 3).toNat = (expS key j).1.length - 3 := by omega
 have ho2 : (4 * ((4 + j : Nat) : Int) - 2).toNat = (expS key j).1.length - 2 := by omega
 have ho1 : (4 * ((4 + j : Nat) : Int) - 1).toNat = (expS key j).1.length - 1 := by omega
 refine AW.seq ?_
 refine AW.seq ?_
 refine AW.region ?_
 refine OpsW.q rfl (q_move (v := .int _ _) rfl) ?_
 refine OpsW.q rfl (q_lss rfl rfl) ?_
 refine OpsW.nil ?_
 refine SeqP.go ?_
 refine AW.cond2 rfl (fun h0 => ?_) (fun h0 => ?_)
 ·
  try simp only [z1, z2, z3, z4, z5, z6, z7, z8, z9, z10, z11, z12, z13, z14] at h0
  refine AW.exit ?_
  refine SeqP.exit ?_
  refine LoopP.exit ?_
  obtain rfl : j = 40 := by omega
  have hkl := keysL_length hk
  have hke : (expS key 40).1 = keysL key := by rw [keysL]
  rw [hke] at hSl0
  refine BlockP.here ?_
  refine SeqP.go ?_
  refine AW.seq ?_
  refine AW.region ?_
  refine OpsW.q rfl (q_assign (v := .slice _ _ _) rfl) ?_
  refine OpsW.nil ?_
  refine SeqP.go ?_
  refine AW.seq ?_
  refine AW.seq ?_
  refine AW.region ?_
  refine OpsW.q rfl (q_assign (v := .int _ _) rfl) ?_
  refine OpsW.nil ?_
  refine SeqP.go ?_
  refine AW.block ?_
  replace hSl0 := hSl0.nil (el := 9) (sz := 1)
  refine AW.loop (fun m_ e_ H_ => ∃ (i : Nat) (vo vw : Value) (e0 : Env), m_ = 11 - i ∧ (i ≤ 11) ∧ e_ = upds e0 [(5, vw), (10, vo), (11, .int .i64 (i : Int))] ∧ Sep H [.vec vo 9 1 i (strs (keysS (keysL key) i)), .vec vw 5 1 176 (nums .u8 (ofB (keysL key)))] H_) _ ⟨0, nilV, vw, _, rfl, (by omega), Slots.eq ⟨(by rfl), (by rfl), (by rfl),  trivial⟩, (by rw [keysS_zero]; exact hSl0)⟩ ?_
  rintro m_ _ Hl2 ⟨i, vo, vw, e0, rfl, hf, rfl, hSl2⟩
  try clear hSl0
  have ho : (16 * (i : Int)).toNat = 16 * i := by omega
  have ho2 : (16 * (i : Int) + 16).toNat - (16 * (i : Int)).toNat = 16 := by omega
  refine AW.seq ?_
  refine AW.seq ?_
  refine AW.region ?_
  refine OpsW.q rfl (q_move (v := .int _ _) rfl) ?_
  refine OpsW.q rfl (q_lss rfl rfl) ?_
  refine OpsW.nil ?_
  refine SeqP.go ?_
  refine AW.cond2 rfl (fun h3 => ?_) (fun h3 => ?_)
  ·
   try simp only [z1, z2, z3, z4, z5, z6, z7, z8, z9, z10, z11, z12, z13, z14] at h3
   refine AW.exit ?_
   refine SeqP.exit ?_
   refine LoopP.exit ?_
   obtain rfl : i = 11 := by omega
   refine BlockP.here ?_
   refine SeqP.go ?_
   refine AW.seq ?_
   refine AW.region ?_
   refine OpsW.q rfl (q_move (v := vo) rfl) ?_
   refine OpsW.q rfl (q_assign (v := vo) rfl) ?_
   refine OpsW.nil ?_
   refine SeqP.go ?_
   refine AW.ret ?_
   refine RetP.mk1 (H' := Hl2) (v1 := vo) rfl rfl  (Hp.le_refl _) ?_
   exact hSl2.del del1
  try simp only [z1, z2, z3, z4, z5, z6, z7, z8, z9, z10, z11, z12, z13, z14] at h3
  refine AW.skip ?_
  refine SeqP.go ?_
  refine AW.seq ?_
  refine AW.block ?_
  refine AW.region ?_
  refine OpsW.q rfl (q_move (v := vo) rfl) ?_
  refine OpsW.q rfl (q_move (v := vw) rfl) ?_
  refine OpsW.q rfl (q_move (v := .int _ _) rfl) ?_
  refine OpsW.q rfl (q_mulI rfl rfl (by omega)) ?_
  refine OpsW.q rfl (q_move (v := .int _ _) rfl) ?_
  refine OpsW.q rfl (q_mulI rfl rfl (by omega)) ?_
  refine OpsW.q rfl (q_addI rfl rfl (by omega)) ?_
  refine OpsW.q rfl (q_sliceVec (hSl2.vec at1) Tryz.underlying35 (by kernel_rfl) rfl rfl rfl (by omega) (by omega) (by omega) (by omega)) ?_
  refine OpsW.q rfl (q_stringSub (hSl2.vec at1) Tryz.underlying35 Tryz.underlying5 Tryz.underlying9 rfl (by omega) (by omega) (by omega)) ?_
  refine OpsW.m rfl (s_buildSlice (z := S []) (vs := strs [_]) hSl2 Tryz.underlying43 (by kernel_rfl) (by kernel_rfl) rfl (by rfl) (by rfl) (by decide) rfl (strs_one _) rfl) ?_
  rintro v109 H2 hS2
  clear hSl2
  refine OpsW.m rfl (s_append (sz := 1) (by_ := 16) (z := S []) hS2 at1 Tryz.underlying43 (by kernel_rfl) (by kernel_rfl) (by kernel_rfl) rfl (by kernel_rfl) rfl rfl (src_vec (hS2.vec at0) (strs_one _)) (by unfold maxLen; omega) (by omega)) ?_
  rintro v110 H3 hS3
  clear hS2
  replace hS3 := hS3.del del0
  refine OpsW.q rfl (q_assign (v := v110) rfl) ?_
  refine OpsW.nil ?_
  refine BlockP.go ?_
  refine SeqP.go ?_
  refine AW.region ?_
  refine OpsW.q rfl (q_move (v := .int _ _) rfl) ?_
  refine OpsW.q rfl (q_addI rfl rfl (by omega)) ?_
  refine OpsW.q rfl (q_assign (v := .int _ _) rfl) ?_
  refine OpsW.nil ?_
  exact LoopP.go _ (by omega) ⟨i + 1, v110, vw, _, rfl, (by omega), Slots.eq ⟨(by rfl), (by rfl), (by rfl),  trivial⟩, (by rw [keysS_succ, strs_append]; have hq := hS3; rw [ho2, ho] at hq; exact hq)⟩
 try simp only [z1, z2, z3, z4, z5, z6, z7, z8, z9, z10, z11, z12, z13, z14] at h0
 refine AW.skip ?_
 refine SeqP.go ?_
 refine AW.seq ?_
 refine AW.block ?_
 refine AW.seq ?_
 refine AW.drawK [] 24 rfl (by kernel_rfl) ?_
 refine SeqK.q rfl (q_move (v := vw) rfl) ?_
 refine SeqK.q rfl (q_move (v := .int _ _) rfl) ?_
 refine SeqK.q rfl (q_mulI rfl rfl (by omega)) ?_
 refine SeqK.q rfl (q_subI rfl rfl (by omega)) ?_
 refine SeqK.q rfl (q_indexV1 (hSl0.vec at0) Tryz.underlying35 (by kernel_rfl) rfl rfl (by omega) (by omega)) ?_
 refine SeqK.q rfl (q_loadVB (hSl0.vec at0) (by kernel_rfl) rfl (by omega)) ?_
 refine SeqK.q rfl (q_move (v := vw) rfl) ?_
 refine SeqK.q rfl (q_move (v := .int _ _) rfl) ?_
 refine SeqK.q rfl (q_mulI rfl rfl (by omega)) ?_
 refine SeqK.q rfl (q_subI rfl rfl (by omega)) ?_
 refine SeqK.q rfl (q_indexV1 (hSl0.vec at0) Tryz.underlying35 (by kernel_rfl) rfl rfl (by omega) (by omega)) ?_
 refine SeqK.q rfl (q_loadVB (hSl0.vec at0) (by kernel_rfl) rfl (by omega)) ?_
 refine SeqK.q rfl (q_move (v := vw) rfl) ?_
 refine SeqK.q rfl (q_move (v := .int _ _) rfl) ?_
 refine SeqK.q rfl (q_mulI rfl rfl (by omega)) ?_
 refine SeqK.q rfl (q_subI rfl rfl (by omega)) ?_
 refine SeqK.q rfl (q_indexV1 (hSl0.vec at0) Tryz.underlying35 (by kernel_rfl) rfl rfl (by omega) (by omega)) ?_
 refine SeqK.q rfl (q_loadVB (hSl0.vec at0) (by kernel_rfl) rfl (by omega)) ?_
 refine SeqK.q rfl (q_move (v := vw) rfl) ?_
 refine SeqK.q rfl (q_move (v := .int _ _) rfl) ?_
 refine SeqK.q rfl (q_mulI rfl rfl (by omega)) ?_
 refine SeqK.q rfl (q_subI rfl rfl (by omega)) ?_
 refine SeqK.q rfl (q_indexV1 (hSl0.vec at0) Tryz.underlying35 (by kernel_rfl) rfl rfl (by omega) (by omega)) ?_
 refine SeqK.q rfl (q_loadVB (hSl0.vec at0) (by kernel_rfl) rfl (by omega)) ?_
 refine SeqK.done ?_
 refine OpsW.m rfl (s_buildSlice (z := .int .u8 0) (vs := nums .u8 (ofB [_, _, _, _])) hSl0 Tryz.underlying35 (by kernel_rfl) (by kernel_rfl) rfl (by rfl) (by rfl) (by decide) rfl (nums_one _ _) rfl) ?_
 rintro v42 H4 hS4
 clear hSl0
 refine OpsW.q rfl (q_assign (v := v42) rfl) ?_
 refine OpsW.nil ?_
 refine SeqP.go ?_
 refine AW.seq ?_
 refine AW.seq ?_
 refine AW.region ?_
 refine OpsW.q rfl (q_move (v := .int _ _) rfl) ?_
 refine OpsW.q rfl (q_remI rfl rfl (by omega)) ?_
 refine OpsW.q rfl (q_eql rfl rfl) ?_
 refine OpsW.nil ?_
 refine SeqP.go ?_
 refine AW.cond rfl (fun h1 => ?_) (fun h1 => ?_)
 ·
  try simp only [z1, z2, z3, z4, z5, z6, z7, z8, z9, z10, z11, z12, z13, z14] at h1
  have hj : j % 4 = 0 := by omega
  have hb0 := ([(expS key j).1.getD (4 * ((4 + j : Nat) : Int) - 4).toNat 0, (expS key j).1.getD (4 * ((4 + j : Nat) : Int) - 3).toNat 0, (expS key j).1.getD (4 * ((4 + j : Nat) : Int) - 2).toNat 0, (expS key j).1.getD (4 * ((4 + j : Nat) : Int) - 1).toNat 0].getD (Int.toNat 0) 0).toNat_lt
  have hb1 := ([(expS key j).1.getD (4 * ((4 + j : Nat) : Int) - 4).toNat 0, (expS key j).1.getD (4 * ((4 + j : Nat) : Int) - 3).toNat 0, (expS key j).1.getD (4 * ((4 + j : Nat) : Int) - 2).toNat 0, (expS key j).1.getD (4 * ((4 + j : Nat) : Int) - 1).toNat 0].getD (Int.toNat 1) 0).toNat_lt
  have hb2 := ([(expS key j).1.getD (4 * ((4 + j : Nat) : Int) - 4).toNat 0, (expS key j).1.getD (4 * ((4 + j : Nat) : Int) - 3).toNat 0, (expS key j).1.getD (4 * ((4 + j : Nat) : Int) - 2).toNat 0, (expS key j).1.getD (4 * ((4 + j : Nat) : Int) - 1).toNat 0].getD (Int.toNat 2) 0).toNat_lt
  have hb3 := ([(expS key j).1.getD (4 * ((4 + j : Nat) : Int) - 4).toNat 0, (expS key j).1.getD (4 * ((4 + j : Nat) : Int) - 3).toNat 0, (expS key j).1.getD (4 * ((4 + j : Nat) : Int) - 2).toNat 0, (expS key j).1.getD (4 * ((4 + j : Nat) : Int) - 1).toNat 0].getD (Int.toNat 3) 0).toNat_lt
  refine AW.seq ?_
  refine AW.drawK [] 27 rfl (by kernel_rfl) ?_
  refine SeqK.q rfl (q_move (v := vs) rfl) ?_
  refine SeqK.q rfl (q_move (v := v42) rfl) ?_
  refine SeqK.q rfl (q_indexV1 (hS4.vec at0) Tryz.underlying35 (by kernel_rfl) rfl rfl (by omega) (by omega)) ?_
  refine SeqK.q rfl (q_loadVB (hS4.vec at0) (by kernel_rfl) rfl (by simp only [nums_length, List.length_set, List.length_replicate, List.length_take, List.length_drop, List.length_append, List.length_cons, List.length_nil, ofB_length, toB_length]; omega)) ?_
  refine SeqK.q rfl (q_indexV1 (hVs.le hS4.le) Tryz.underlying35 (by kernel_rfl) rfl rfl (by omega) (by omega)) ?_
  refine SeqK.q rfl (q_loadVB (hVs.le hS4.le) (by kernel_rfl) rfl (by omega)) ?_
  refine SeqK.q rfl (q_move (v := .int _ _) rfl) ?_
  refine SeqK.q rfl (q_convIB rfl Tryz.underlying5 rfl) ?_
  refine SeqK.q rfl (q_xorB rfl rfl) ?_
  refine SeqK.q rfl (q_move (v := vs) rfl) ?_
  refine SeqK.q rfl (q_move (v := v42) rfl) ?_
  refine SeqK.q rfl (q_indexV1 (hS4.vec at0) Tryz.underlying35 (by kernel_rfl) rfl rfl (by omega) (by omega)) ?_
  refine SeqK.q rfl (q_loadVB (hS4.vec at0) (by kernel_rfl) rfl (by simp only [nums_length, List.length_set, List.length_replicate, List.length_take, List.length_drop, List.length_append, List.length_cons, List.length_nil, ofB_length, toB_length]; omega)) ?_
  refine SeqK.q rfl (q_indexV1 (hVs.le hS4.le) Tryz.underlying35 (by kernel_rfl) rfl rfl (by omega) (by omega)) ?_
  refine SeqK.q rfl (q_loadVB (hVs.le hS4.le) (by kernel_rfl) rfl (by omega)) ?_
  refine SeqK.q rfl (q_move (v := vs) rfl) ?_
  refine SeqK.q rfl (q_move (v := v42) rfl) ?_
  refine SeqK.q rfl (q_indexV1 (hS4.vec at0) Tryz.underlying35 (by kernel_rfl) rfl rfl (by omega) (by omega)) ?_
  refine SeqK.q rfl (q_loadVB (hS4.vec at0) (by kernel_rfl) rfl (by simp only [nums_length, List.length_set, List.length_replicate, List.length_take, List.length_drop, List.length_append, List.length_cons, List.length_nil, ofB_length, toB_length]; omega)) ?_
  refine SeqK.q rfl (q_indexV1 (hVs.le hS4.le) Tryz.underlying35 (by kernel_rfl) rfl rfl (by omega) (by omega)) ?_
  refine SeqK.q rfl (q_loadVB (hVs.le hS4.le) (by kernel_rfl) rfl (by omega)) ?_
  refine SeqK.q rfl (q_move (v := vs) rfl) ?_
  refine SeqK.q rfl (q_move (v := v42) rfl) ?_
  refine SeqK.q rfl (q_indexV1 (hS4.vec at0) Tryz.underlying35 (by kernel_rfl) rfl rfl (by omega) (by omega)) ?_
  refine SeqK.q rfl (q_loadVB (hS4.vec at0) (by kernel_rfl) rfl (by simp only [nums_length, List.length_set, List.length_replicate, List.length_take, List.length_drop, List.length_append, List.length_cons, List.length_nil, ofB_length, toB_length]; omega)) ?_
  refine SeqK.q rfl (q_indexV1 (hVs.le hS4.le) Tryz.underlying35 (by kernel_rfl) rfl rfl (by omega) (by omega)) ?_
  refine SeqK.q rfl (q_loadVB (hVs.le hS4.le) (by kernel_rfl) rfl (by omega)) ?_
  refine SeqK.done ?_
  refine OpsW.m rfl (s_buildSlice (z := .int .u8 0) (vs := nums .u8 (ofB [_, _, _, _])) hS4 Tryz.underlying35 (by kernel_rfl) (by kernel_rfl) rfl (by rfl) (by rfl) (by decide) rfl (nums_one _ _) rfl) ?_
  rintro v73 H5 hS5
  clear hS4
  refine OpsW.q rfl (q_assign (v := v73) rfl) ?_
  refine OpsW.nil ?_
  refine SeqP.go ?_
  refine AW.region ?_
  refine OpsW.q rfl (q_move (v := .int _ _) rfl) ?_
  refine OpsW.q rfl (o_call rfl Tryz.func90 rfl rfl (timesR_con (expS key j).2.toNat_lt (by decide))) ?_
  refine OpsW.q rfl (q_assign (v := .int _ _) rfl) ?_
  refine OpsW.nil ?_
  refine SeqP.go ?_
  refine AW.seq ?_
  refine AW.region ?_
  refine OpsW.q rfl (q_assign (v := .int _ _) rfl) ?_
  refine OpsW.nil ?_
  refine SeqP.go ?_
  refine AW.block ?_
  replace hS5 := Sep.bring del0 hS5
  replace hS5 := Sep.bring del2 hS5
  replace hS5 := hS5.del del2
  refine AW.loop (fun m_ e_ H_ => ∃ (k : Nat) (vw vl : Value) (e0 : Env), m_ = 4 - k ∧ (k ≤ 4) ∧ e_ = upds e0 [(1, vs), (5, vw), (6, .int .i64 (((expS key (j + 1)).2.toNat : Nat) : Int)), (7, .int .i64 ((4 + j : Nat) : Int)), (8, vl), (9, .int .i64 (k : Int))] ∧ Sep H [.vec vw 5 1 ((16 + 4 * j + k)) (nums .u8 (ofB (extK (expS key j).1 (lastW (expS key j).1 j (expS key j).2) k))), .vec vl 5 1 4 (nums .u8 (ofB (lastW (expS key j).1 j (expS key j).2)))] H_) _ ⟨0, vw, v73, _, rfl, (by omega), Slots.eq ⟨(by rfl), (by rfl), (by first | (rw [expS_x_yes hj, tw_toNat, ← tm2N]; rfl) | (rw [expS_x_no hj]; rfl)), (by rfl), (by rfl), (by rfl),  trivial⟩, (by rw [extK_zero, lastW_yes hj]; have hq := hS5; simp only [Int.toNat_natCast, sb_get] at hq; rw [ho4, ho3, ho2, ho1] at hq; exact hq)⟩ ?_
  rintro m_ _ Hl1 ⟨k, vw, vl, e0, rfl, hf, rfl, hSl1⟩
  try clear hS5
  have hlw := lastW_length (expS key j).1 j (expS key j).2
  have hek := extK_length (expS key j).1 (lastW (expS key j).1 j (expS key j).2) k
  refine AW.seq ?_
  refine AW.seq ?_
  refine AW.region ?_
  refine OpsW.q rfl (q_move (v := .int _ _) rfl) ?_
  refine OpsW.q rfl (q_lss rfl rfl) ?_
  refine OpsW.nil ?_
  refine SeqP.go ?_
  refine AW.cond2 rfl (fun h2 => ?_) (fun h2 => ?_)
  ·
   try simp only [z1, z2, z3, z4, z5, z6, z7, z8, z9, z10, z11, z12, z13, z14] at h2
   refine AW.exit ?_
   refine SeqP.exit ?_
   refine LoopP.exit ?_
   obtain rfl : k = 4 := by omega
   refine BlockP.here ?_
   refine BlockP.go ?_
   refine SeqP.go ?_
   refine AW.region ?_
   refine OpsW.q rfl (q_move (v := .int _ _) rfl) ?_
   refine OpsW.q rfl (q_addI rfl rfl (by omega)) ?_
   refine OpsW.q rfl (q_assign (v := .int _ _) rfl) ?_
   refine OpsW.nil ?_
   replace hSl1 := hSl1.del del1
   exact LoopP.go _ (by omega) ⟨j + 1, vw, _, rfl, (by omega), Slots.eq ⟨(by rfl), (by rfl), (by rfl), (by rfl),  trivial⟩, (by rw [expS_next]; exact hSl1)⟩
  try simp only [z1, z2, z3, z4, z5, z6, z7, z8, z9, z10, z11, z12, z13, z14] at h2
  refine AW.skip ?_
  refine SeqP.go ?_
  refine AW.seq ?_
  refine AW.block ?_
  refine AW.drawD 14 0 rfl (by kernel_rfl) (by kernel_rfl) ?_
  refine SeqD.a rfl (fun _ => q_move (v := vw) rfl) ?_
  refine SeqD.a rfl (fun _ => q_move (v := vw) rfl) ?_
  refine SeqD.a rfl (fun _ => q_move (v := .int _ _) rfl) ?_
  refine SeqD.a rfl (fun _ => q_mulI rfl rfl (by omega)) ?_
  refine SeqD.a rfl (fun _ => q_subI rfl rfl (by omega)) ?_
  refine SeqD.a rfl (fun _ => q_move (v := .int _ _) rfl) ?_
  refine SeqD.a rfl (fun _ => q_addI rfl rfl (by omega)) ?_
  refine SeqD.b (by kernel_rfl) rfl (q_indexV1 (hSl1.vec at0) Tryz.underlying35 (by kernel_rfl) rfl rfl (by omega) (by omega)) ?_
  refine SeqD.b (by kernel_rfl) rfl (q_loadVB (hSl1.vec at0) (by kernel_rfl) rfl (by omega)) ?_
  refine SeqD.a rfl (fun _ => q_move (v := vl) rfl) ?_
  refine SeqD.a rfl (fun _ => q_move (v := .int _ _) rfl) ?_
  refine SeqD.b (by kernel_rfl) rfl (q_indexV1 (hSl1.vec at1) Tryz.underlying35 (by kernel_rfl) rfl rfl (by omega) (by omega)) ?_
  refine SeqD.b (by kernel_rfl) rfl (q_loadVB (hSl1.vec at1) (by kernel_rfl) rfl (by omega)) ?_
  refine SeqD.a rfl (fun _ => q_xorB rfl rfl) ?_
  refine SeqD.x rfl (s_buildSlice (z := .int .u8 0) (vs := nums .u8 (ofB [_])) hSl1 Tryz.underlying35 (by kernel_rfl) (by kernel_rfl) rfl (by rfl) (by rfl) (by decide) rfl (nums_one _ _) rfl) ?_
  rintro v94 H6 hS6
  clear hSl1
  refine ⟨trivial, ?_⟩
  refine SeqR2.done ?_
  refine OpsW.m rfl (s_append (sz := 1) (by_ := 1) (z := .int .u8 0) hS6 at1 Tryz.underlying35 (by kernel_rfl) (by kernel_rfl) (by kernel_rfl) rfl (by kernel_rfl) rfl rfl (src_vec (hS6.vec at0) (nums_one _ _)) (by unfold maxLen; omega) (by omega)) ?_
  rintro v95 H7 hS7
  clear hS6
  replace hS7 := hS7.del del0
  refine OpsW.q rfl (q_assign (v := v95) rfl) ?_
  refine OpsW.nil ?_
  refine BlockP.go ?_
  refine SeqP.go ?_
  refine AW.region ?_
  refine OpsW.q rfl (q_move (v := .int _ _) rfl) ?_
  refine OpsW.q rfl (q_addI rfl rfl (by omega)) ?_
  refine OpsW.q rfl (q_assign (v := .int _ _) rfl) ?_
  refine OpsW.nil ?_
  exact LoopP.go _ (by omega) ⟨k + 1, v95, vl, _, rfl, (by omega), Slots.eq ⟨(by rfl), (by rfl), (by rfl), (by rfl), (by rfl), (by rfl),  trivial⟩, (by rw [extK_succ, ofB_app, nums_append]; have hq := hS7; rw [show (4 * ((4 + j : Nat) : Int) - 16 + (k : Int)).toNat = (expS key j).1.length - 16 + k from by omega, Int.toNat_natCast, extK_get _ _ _ _ (by omega)] at hq; exact hq)⟩
 try simp only [z1, z2, z3, z4, z5, z6, z7, z8, z9, z10, z11, z12, z13, z14] at h1
 have hj : ¬ j % 4 = 0 := by omega
 refine AW.skip ?_
 refine SeqP.go ?_
 refine AW.seq ?_
 refine AW.region ?_
 refine OpsW.q rfl (q_assign (v := .int _ _) rfl) ?_
 refine OpsW.nil ?_
 refine SeqP.go ?_
 refine AW.block ?_
 replace hS4 := Sep.bring del0 hS4
 replace hS4 := Sep.bring del1 hS4
 refine AW.loop (fun m_ e_ H_ => ∃ (k : Nat) (vw vl : Value) (e0 : Env), m_ = 4 - k ∧ (k ≤ 4) ∧ e_ = upds e0 [(1, vs), (5, vw), (6, .int .i64 (((expS key (j + 1)).2.toNat : Nat) : Int)), (7, .int .i64 ((4 + j : Nat) : Int)), (8, vl), (9, .int .i64 (k : Int))] ∧ Sep H [.vec vw 5 1 ((16 + 4 * j + k)) (nums .u8 (ofB (extK (expS key j).1 (lastW (expS key j).1 j (expS key j).2) k))), .vec vl 5 1 4 (nums .u8 (ofB (lastW (expS key j).1 j (expS key j).2)))] H_) _ ⟨0, vw, v42, _, rfl, (by omega), Slots.eq ⟨(by rfl), (by rfl), (by first | (rw [expS_x_yes hj, tw_toNat, ← tm2N]; rfl) | (rw [expS_x_no hj]; rfl)), (by rfl), (by rfl), (by rfl),  trivial⟩, (by rw [extK_zero, lastW_no hj]; have hq := hS4; rw [ho4, ho3, ho2, ho1] at hq; exact hq)⟩ ?_
 rintro m_ _ Hl1 ⟨k, vw, vl, e0, rfl, hf, rfl, hSl1⟩
 try clear hS4
 have hlw := lastW_length (expS key j).1 j (expS key j).2
 have hek := extK_length (expS key j).1 (lastW (expS key j).1 j (expS key j).2) k
 refine AW.seq ?_
 refine AW.seq ?_
 refine AW.region ?_
 refine OpsW.q rfl (q_move (v := .int _ _) rfl) ?_
 refine OpsW.q rfl (q_lss rfl rfl) ?_
 refine OpsW.nil ?_
 refine SeqP.go ?_
 refine AW.cond2 rfl (fun h2 => ?_) (fun h2 => ?_)
 ·
  try simp only [z1, z2, z3, z4, z5, z6, z7, z8, z9, z10, z11, z12, z13, z14] at h2
  refine AW.exit ?_
  refine SeqP.exit ?_
  refine LoopP.exit ?_
  obtain rfl : k = 4 := by omega
  refine BlockP.here ?_
  refine BlockP.go ?_
  refine SeqP.go ?_
  refine AW.region ?_
  refine OpsW.q rfl (q_move (v := .int _ _) rfl) ?_
  refine OpsW.q rfl (q_addI rfl rfl (by omega)) ?_
  refine OpsW.q rfl (q_assign (v := .int _ _) rfl) ?_
  refine OpsW.nil ?_
  replace hSl1 := hSl1.del del1
  exact LoopP.go _ (by omega) ⟨j + 1, vw, _, rfl, (by omega), Slots.eq ⟨(by rfl), (by rfl), (by rfl), (by rfl),  trivial⟩, (by rw [expS_next]; exact hSl1)⟩
 try simp only [z1, z2, z3, z4, z5, z6, z7, z8, z9, z10, z11, z12, z13, z14] at h2
 refine AW.skip ?_
 refine SeqP.go ?_
 refine AW.seq ?_
 refine AW.block ?_
 refine AW.drawD 14 0 rfl (by kernel_rfl) (by kernel_rfl) ?_
 refine SeqD.a rfl (fun _ => q_move (v := vw) rfl) ?_
 refine SeqD.a rfl (fun _ => q_move (v := vw) rfl) ?_
 refine SeqD.a rfl (fun _ => q_move (v := .int _ _) rfl) ?_
 refine SeqD.a rfl (fun _ => q_mulI rfl rfl (by omega)) ?_
 refine SeqD.a rfl (fun _ => q_subI rfl rfl (by omega)) ?_
 refine SeqD.a rfl (fun _ => q_move (v := .int _ _) rfl) ?_
 refine SeqD.a rfl (fun _ => q_addI rfl rfl (by omega)) ?_
 refine SeqD.b (by kernel_rfl) rfl (q_indexV1 (hSl1.vec at0) Tryz.underlying35 (by kernel_rfl) rfl rfl (by omega) (by omega)) ?_
 refine SeqD.b (by kernel_rfl) rfl (q_loadVB (hSl1.vec at0) (by kernel_rfl) rfl (by omega)) ?_
 refine SeqD.a rfl (fun _ => q_move (v := vl) rfl) ?_
 refine SeqD.a rfl (fun _ => q_move (v := .int _ _) rfl) ?_
 refine SeqD.b (by kernel_rfl) rfl (q_indexV1 (hSl1.vec at1) Tryz.underlying35 (by kernel_rfl) rfl rfl (by omega) (by omega)) ?_
 refine SeqD.b (by kernel_rfl) rfl (q_loadVB (hSl1.vec at1) (by kernel_rfl) rfl (by omega)) ?_
 refine SeqD.a rfl (fun _ => q_xorB rfl rfl) ?_
 refine SeqD.x rfl (s_buildSlice (z := .int .u8 0) (vs := nums .u8 (ofB [_])) hSl1 Tryz.underlying35 (by kernel_rfl) (by kernel_rfl) rfl (by rfl) (by rfl) (by decide) rfl (nums_one _ _) rfl) ?_
 rintro v94 H8 hS8
 clear hSl1
 refine ⟨trivial, ?_⟩
 refine SeqR2.done ?_
 refine OpsW.m rfl (s_append (sz := 1) (by_ := 1) (z := .int .u8 0) hS8 at1 Tryz.underlying35 (by kernel_rfl) (by kernel_rfl) (by kernel_rfl) rfl (by kernel_rfl) rfl rfl (src_vec (hS8.vec at0) (nums_one _ _)) (by unfold maxLen; omega) (by omega)) ?_
 rintro v95 H9 hS9
 clear hS8
 replace hS9 := hS9.del del0
 refine OpsW.q rfl (q_assign (v := v95) rfl) ?_
 refine OpsW.nil ?_
 refine BlockP.go ?_
 refine SeqP.go ?_
 refine AW.region ?_
 refine OpsW.q rfl (q_move (v := .int _ _) rfl) ?_
 refine OpsW.q rfl (q_addI rfl rfl (by omega)) ?_
 refine OpsW.q rfl (q_assign (v := .int _ _) rfl) ?_
 refine OpsW.nil ?_
 exact LoopP.go _ (by omega) ⟨k + 1, v95, vl, _, rfl, (by omega), Slots.eq ⟨(by rfl), (by rfl), (by rfl), (by rfl), (by rfl), (by rfl),  trivial⟩, (by rw [extK_succ, ofB_app, nums_append]; have hq := hS9; rw [show (4 * ((4 + j : Nat) : Int) - 16 + (k : Int)).toNat = (expS key j).1.length - 16 + k from by omega, Int.toNat_natCast, extK_get _ _ _ _ (by omega)] at hq; exact hq)⟩
theorem withR_con {va : Value} {s k : List UInt8} (hVa : Vec H 5 1 va 16 (nums .u8 (ofB s))) (hs : s.length = 16) (hk : k.length = 16) : Con Tryz.prog w0 92 #[va, S k] H (fun v H' => Sep H [.vec v 5 1 16 (nums .u8 (ofB (xorA s k 16)))] H') := by
 have hS0 : Sep H [] H := Sep.refl
 refine Con.intro Tryz.func92 rfl rfl ?_
 refine AW.seq ?_
 refine AW.region ?_
 refine OpsW.q rfl (q_assign (v := .slice _ _ _) rfl) ?_
 refine OpsW.nil ?_
 refine SeqP.go ?_
 refine AW.seq ?_
 refine AW.region ?_
 refine OpsW.q rfl (q_assign (v := .slice _ _ _) rfl) ?_
 refine OpsW.nil ?_
 refine SeqP.go ?_
 refine AW.seq ?_
 refine AW.seq ?_
 refine AW.region ?_
 refine OpsW.q rfl (q_assign (v := .int _ _) rfl) ?_
 refine OpsW.nil ?_
 refine SeqP.go ?_
 refine AW.block ?_
 replace hS0 := hS0.nil (el := 5) (sz := 1)
 refine AW.loop (fun m_ e_ H_ => ∃ (i : Nat) (vo : Value) (e0 : Env), m_ = 16 - i ∧ (i ≤ 16) ∧ e_ = upds e0 [(0, va), (1, S k), (5, vo), (6, .int .i64 (i : Int))] ∧ Sep H [.vec vo 5 1 i (nums .u8 (ofB (xorA s k i)))] H_) _ ⟨0, nilV, _, rfl, (by omega), Slots.eq ⟨(by rfl), (by rfl), (by rfl), (by rfl),  trivial⟩, (by rw [xorA_zero]; exact hS0)⟩ ?_
 rintro m_ _ Hl0 ⟨i, vo, e0, rfl, hf, rfl, hSl0⟩
 try clear hS0
 refine AW.seq ?_
 refine AW.seq ?_
 refine AW.region ?_
 refine OpsW.q rfl (q_move (v := .int _ _) rfl) ?_
 refine OpsW.q rfl (q_lss rfl rfl) ?_
 refine OpsW.nil ?_
 refine SeqP.go ?_
 refine AW.cond2 rfl (fun h0 => ?_) (fun h0 => ?_)
 ·
  try simp only [z1, z2, z3, z4, z5, z6, z7, z8, z9, z10, z11, z12, z13, z14] at h0
  refine AW.exit ?_
  refine SeqP.exit ?_
  refine LoopP.exit ?_
  obtain rfl : i = 16 := by omega
  refine BlockP.here ?_
  refine SeqP.go ?_
  refine AW.seq ?_
  refine AW.region ?_
  refine OpsW.q rfl (q_move (v := vo) rfl) ?_
  refine OpsW.q rfl (q_assign (v := vo) rfl) ?_
  refine OpsW.nil ?_
  refine SeqP.go ?_
  refine AW.ret ?_
  refine RetP.mk1 (H' := Hl0) (v1 := vo) rfl rfl  (Hp.le_refl _) ?_
  exact hSl0
 try simp only [z1, z2, z3, z4, z5, z6, z7, z8, z9, z10, z11, z12, z13, z14] at h0
 refine AW.skip ?_
 refine SeqP.go ?_
 refine AW.seq ?_
 refine AW.block ?_
 refine AW.drawD 9 0 rfl (by kernel_rfl) (by kernel_rfl) ?_
 refine SeqD.a rfl (fun _ => q_move (v := vo) rfl) ?_
 refine SeqD.a rfl (fun _ => q_move (v := va) rfl) ?_
 refine SeqD.a rfl (fun _ => q_move (v := .int _ _) rfl) ?_
 refine SeqD.b (by kernel_rfl) rfl (q_indexV1 (hVa.le hSl0.le) Tryz.underlying35 (by kernel_rfl) rfl rfl (by omega) (by omega)) ?_
 refine SeqD.b (by kernel_rfl) rfl (q_loadVB (hVa.le hSl0.le) (by kernel_rfl) rfl (by omega)) ?_
 refine SeqD.a rfl (fun _ => q_move (v := S _) rfl) ?_
 refine SeqD.a rfl (fun _ => q_move (v := .int _ _) rfl) ?_
 refine SeqD.a rfl (fun _ => q_indexS Tryz.underlying9 rfl rfl (by omega) (by omega)) ?_
 refine SeqD.a rfl (fun _ => q_xorB rfl rfl) ?_
 refine SeqD.x rfl (s_buildSlice (z := .int .u8 0) (vs := nums .u8 (ofB [_])) hSl0 Tryz.underlying35 (by kernel_rfl) (by kernel_rfl) rfl (by rfl) (by rfl) (by decide) rfl (nums_one _ _) rfl) ?_
 rintro v20 H1 hS1
 clear hSl0
 refine ⟨trivial, ?_⟩
 refine SeqR2.done ?_
 refine OpsW.m rfl (s_append (sz := 1) (by_ := 1) (z := .int .u8 0) hS1 at1 Tryz.underlying35 (by kernel_rfl) (by kernel_rfl) (by kernel_rfl) rfl (by kernel_rfl) rfl rfl (src_vec (hS1.vec at0) (nums_one _ _)) (by unfold maxLen; omega) (by omega)) ?_
 rintro v21 H2 hS2
 clear hS1
 replace hS2 := hS2.del del0
 refine OpsW.q rfl (q_assign (v := v21) rfl) ?_
 refine OpsW.nil ?_
 refine BlockP.go ?_
 refine SeqP.go ?_
 refine AW.region ?_
 refine OpsW.q rfl (q_move (v := .int _ _) rfl) ?_
 refine OpsW.q rfl (q_addI rfl rfl (by omega)) ?_
 refine OpsW.q rfl (q_assign (v := .int _ _) rfl) ?_
 refine OpsW.nil ?_
 exact LoopP.go _ (by omega) ⟨i + 1, v21, _, rfl, (by omega), Slots.eq ⟨(by rfl), (by rfl), (by rfl), (by rfl),  trivial⟩, (by rw [xorA_succ, ofB_app, nums_append]; exact hS2)⟩
theorem ReadyR_con {key : List UInt8} (hk : key.length = 16) : Con Tryz.prog w0 35 #[S key] H (fun v H' => ∃ vk vs, v = .agg #[vk, vs] ∧ Sep H [.vec vk 9 1 11 (strs (keysS (keysL key) 11)), .vec vs 5 1 256 (nums .u8 (ofB (sbox)))] H') := by
 have hS0 : Sep H [] H := Sep.refl
 refine Con.intro Tryz.func35 rfl rfl ?_
 refine AW.seq ?_
 refine AW.region ?_
 refine OpsW.m rfl (s_alloc (z := .agg #[.slice none 0 0, .slice none 0 0]) (cs := [.slice none 0 0, .slice none 0 0]) hS0 (by kernel_rfl) rfl) ?_
 rintro _ H1 ⟨b2, rfl, hS1⟩
 clear hS0
 refine OpsW.nil ?_
 refine SeqP.go ?_
 refine AW.seq ?_
 refine AW.region ?_
 refine OpsW.m rfl (o_call rfl Tryz.func59 rfl rfl (tableR_con)) ?_
 rintro v4 H2 hR2
 have hS2 := hS1.join hR2
 simp only [List.cons_append, List.nil_append] at hS2
 clear hR2 hS1
 refine OpsW.q rfl (q_assign (v := v4) rfl) ?_
 refine OpsW.nil ?_
 refine SeqP.go ?_
 refine AW.seq ?_
 refine AW.region ?_
 refine OpsW.q rfl (q_move (v := S _) rfl) ?_
 refine OpsW.q rfl (q_move (v := v4) rfl) ?_
 refine OpsW.m rfl (o_call rfl Tryz.func60 rfl rfl (keysR_con (hS2.vec at0) hk)) ?_
 rintro v7 H3 hR3
 have hS3 := hS2.join hR3
 simp only [List.cons_append, List.nil_append] at hS3
 clear hR3 hS2
 refine OpsW.q rfl (q_move (v := v4) rfl) ?_
 obtain ⟨bk, ck, qk, rfl, _⟩ := (hS3.vec at0).opened (by decide)
 obtain ⟨bs, cs, qs, rfl, _⟩ := (hS3.vec at1).opened (by decide)
 refine OpsW.q rfl (q_build (cells := #[.slice (some ⟨bk, 0, none⟩) 11 ck, .slice (some ⟨bs, 0, none⟩) 256 cs]) rfl (by kernel_rfl)) ?_
 refine OpsW.ms (s_storeS (n := 2) hS3 at2 (by kernel_rfl) rfl rfl rfl (ones_all rfl) rfl) ?_
 rintro _ H4 ⟨rfl, hS4⟩
 clear hS3
 refine OpsW.nil ?_
 refine SeqP.go ?_
 refine AW.ret ?_
 refine RetP.mkc (m := 2) (H' := H4) rfl rfl (hS4.blk at2) (by simp; done) (by kernel_rfl) (Hp.le_refl _) ?_
 exact ⟨_, _, rfl, hS4.del del2⟩
theorem UnderR_con {vk vs : Value} {ks b : List UInt8} (hVk : Vec H 9 1 vk 11 (strs (keysS ks 11))) (hVs : Vec H 5 1 vs 256 (nums .u8 (ofB sbox))) (hk : ks.length = 176) (hb : b.length = 16) : Con Tryz.prog w0 61 #[.agg #[vk, vs], S b] H (fun v H' => v = S (stA ks b 10) ∧ H' = H) := by
 have hS0 : Sep H [] H := Sep.refl
 have hkl := keysS_length ks 11
 refine Con.intro Tryz.func61 rfl rfl ?_
 refine AW.seq ?_
 refine AW.region ?_
 refine OpsW.m rfl (s_box (cs := [vk, vs]) (v := .agg #[vk, vs]) hS0 rfl rfl) ?_
 rintro _ H1 ⟨b2, rfl, hS1⟩
 clear hS0
 refine OpsW.q rfl (q_assign (v := S _) rfl) ?_
 refine OpsW.nil ?_
 refine SeqP.go ?_
 refine AW.seq ?_
 refine AW.region ?_
 refine OpsW.q rfl (q_move (v := S _) rfl) ?_
 refine OpsW.m rfl (s_bytes hS1 rfl Tryz.underlying35 Tryz.underlying5 rfl (by unfold maxLen; omega)) ?_
 rintro v14 H2 hS2
 clear hS1
 rw [hb] at hS2
 refine OpsW.q rfl (q_fieldAddr (sz := 0) Tryz.underlying70 rfl (by kernel_rfl) rfl) ?_
 refine OpsW.q rfl (q_load (v := vk) (by kernel_rfl) rfl (hS2.blk at1) rfl) ?_
 refine OpsW.q rfl (q_indexV1 (hVk.le hS2.le) Tryz.underlying43 (by kernel_rfl) rfl rfl (by omega) (by omega)) ?_
 refine OpsW.q rfl (q_loadVS (hVk.le hS2.le) (by kernel_rfl) rfl (by omega)) ?_
 have hr0 := rkey_length hk (i := 0) (by omega)
 rw [show (Int.toNat 0) = 0 from rfl, keysS_get (by decide)]
 refine OpsW.m rfl (o_call rfl Tryz.func92 rfl rfl (withR_con (hS2.vec at0) hb hr0)) ?_
 rintro v19 H3 hR3
 have hS3 := hS2.join hR3
 simp only [List.cons_append, List.nil_append] at hS3
 clear hR3 hS2
 refine OpsW.q rfl (q_assign (v := v19) rfl) ?_
 refine OpsW.nil ?_
 refine SeqP.go ?_
 refine AW.seq ?_
 refine AW.seq ?_
 refine AW.region ?_
 refine OpsW.q rfl (q_assign (v := .int _ _) rfl) ?_
 refine OpsW.nil ?_
 refine SeqP.go ?_
 refine AW.block ?_
 replace hS3 := hS3.del del1
 refine AW.loop (fun m_ e_ H_ => ∃ (n : Nat) (vS : Value) (e0 : Env), m_ = 10 - n ∧ (n ≤ 10) ∧ e_ = upds e0 [(2, .pointer (some ⟨b2, 0, none⟩)), (5, vS), (6, .int .i64 ((n + 1 : Nat) : Int))] ∧ Sep H [.vec vS 5 1 16 (nums .u8 (ofB (stA ks b n))), .blk b2 ⟨[vk, vs], 2, 70⟩] H_) _ ⟨0, v19, _, rfl, (by omega), Slots.eq ⟨(by rfl), (by rfl), (by rfl),  trivial⟩, (by rw [stA_zero]; have hq := hS3; exact hq)⟩ ?_
 rintro m_ _ Hl0 ⟨n, vS, e0, rfl, hf, rfl, hSl0⟩
 try clear hS3
 have hsl := stA_length ks b n
 refine AW.seq ?_
 refine AW.seq ?_
 refine AW.region ?_
 refine OpsW.q rfl (q_move (v := .int _ _) rfl) ?_
 refine OpsW.q rfl (q_leq rfl rfl) ?_
 refine OpsW.nil ?_
 refine SeqP.go ?_
 refine AW.cond2 rfl (fun h0 => ?_) (fun h0 => ?_)
 ·
  try simp only [z1, z2, z3, z4, z5, z6, z7, z8, z9, z10, z11, z12, z13, z14] at h0
  refine AW.exit ?_
  refine SeqP.exit ?_
  refine LoopP.exit ?_
  obtain rfl : n = 10 := by omega
  refine BlockP.here ?_
  refine SeqP.go ?_
  refine AW.seq ?_
  refine AW.region ?_
  refine OpsW.q rfl (q_move (v := vS) rfl) ?_
  refine OpsW.q rfl (q_stringB (hSl0.vec at0) Tryz.underlying35 Tryz.underlying5 Tryz.underlying9 rfl) ?_
  refine OpsW.q rfl (q_assign (v := S _) rfl) ?_
  refine OpsW.nil ?_
  refine SeqP.go ?_
  refine AW.ret ?_
  refine RetP.mk1 (H' := H) (v1 := S _) rfl rfl  hSl0.le ?_
  refine ⟨?_, rfl⟩
  rfl
 try simp only [z1, z2, z3, z4, z5, z6, z7, z8, z9, z10, z11, z12, z13, z14] at h0
 refine AW.skip ?_
 refine SeqP.go ?_
 refine AW.seq ?_
 refine AW.block ?_
 refine AW.seq ?_
 refine AW.region ?_
 refine OpsW.q rfl (q_assign (v := .slice _ _ _) rfl) ?_
 refine OpsW.nil ?_
 refine SeqP.go ?_
 refine AW.seq ?_
 refine AW.seq ?_
 refine AW.region ?_
 refine OpsW.q rfl (q_assign (v := .int _ _) rfl) ?_
 refine OpsW.nil ?_
 refine SeqP.go ?_
 refine AW.block ?_
 replace hSl0 := hSl0.nil (el := 5) (sz := 1)
 refine AW.loop (fun m_ e_ H_ => ∃ (i : Nat) (vt vS : Value) (e0 : Env), m_ = 16 - i ∧ (i ≤ 16) ∧ e_ = upds e0 [(2, .pointer (some ⟨b2, 0, none⟩)), (5, vS), (6, .int .i64 ((n + 1 : Nat) : Int)), (7, vt), (8, .int .i64 (i : Int))] ∧ Sep H [.vec vt 5 1 i (nums .u8 (ofB (subA (stA ks b n) i))), .vec vS 5 1 16 (nums .u8 (ofB (stA ks b n))), .blk b2 ⟨[vk, vs], 2, 70⟩] H_) _ ⟨0, nilV, vS, _, rfl, (by omega), Slots.eq ⟨(by rfl), (by rfl), (by rfl), (by rfl), (by rfl),  trivial⟩, (by rw [subA_zero]; exact hSl0)⟩ ?_
 rintro m_ _ Hl1 ⟨i, vt, vS, e0, rfl, hf, rfl, hSl1⟩
 try clear hSl0
 have hsb := sbox_length
 have hi5 : ((((i : Int) + 4 * ((i : Int) % 4)) % 16)).toNat = 5 * i % 16 := by omega
 have hbb := ((stA ks b n).getD (((i : Int) + 4 * ((i : Int) % 4)) % 16).toNat 0).toNat_lt
 refine AW.seq ?_
 refine AW.seq ?_
 refine AW.region ?_
 refine OpsW.q rfl (q_move (v := .int _ _) rfl) ?_
 refine OpsW.q rfl (q_lss rfl rfl) ?_
 refine OpsW.nil ?_
 refine SeqP.go ?_
 refine AW.cond2 rfl (fun h1 => ?_) (fun h1 => ?_)
 ·
  try simp only [z1, z2, z3, z4, z5, z6, z7, z8, z9, z10, z11, z12, z13, z14] at h1
  refine AW.exit ?_
  refine SeqP.exit ?_
  refine LoopP.exit ?_
  obtain rfl : i = 16 := by omega
  have hrl := subA_length (stA ks b n) 16
  refine BlockP.here ?_
  refine SeqP.go ?_
  refine AW.seq ?_
  refine AW.seq ?_
  refine AW.region ?_
  refine OpsW.q rfl (q_move (v := .int _ _) rfl) ?_
  refine OpsW.q rfl (q_lss rfl rfl) ?_
  refine OpsW.nil ?_
  refine SeqP.go ?_
  refine AW.cond rfl (fun h2 => ?_) (fun h2 => ?_)
  ·
   try simp only [z1, z2, z3, z4, z5, z6, z7, z8, z9, z10, z11, z12, z13, z14] at h2
   refine AW.seq ?_
   refine AW.region ?_
   refine OpsW.q rfl (q_assign (v := .slice _ _ _) rfl) ?_
   refine OpsW.nil ?_
   refine SeqP.go ?_
   refine AW.seq ?_
   refine AW.seq ?_
   refine AW.region ?_
   refine OpsW.q rfl (q_assign (v := .int _ _) rfl) ?_
   refine OpsW.nil ?_
   refine SeqP.go ?_
   refine AW.block ?_
   replace hSl1 := hSl1.nil (el := 5) (sz := 1)
   replace hSl1 := Sep.bring del3 hSl1
   replace hSl1 := Sep.bring del2 hSl1
   replace hSl1 := Sep.bring del3 hSl1
   replace hSl1 := Sep.bring del3 hSl1
   refine AW.loop (fun m_ e_ H_ => ∃ (c : Nat) (vu vS vt : Value) (e0 : Env), m_ = 4 - c ∧ (c ≤ 4) ∧ e_ = upds e0 [(2, .pointer (some ⟨b2, 0, none⟩)), (5, vS), (6, .int .i64 ((n + 1 : Nat) : Int)), (7, vt), (9, vu), (10, .int .i64 ((4 * c : Nat) : Int))] ∧ Sep H [.vec vu 5 1 ((4 * c)) (nums .u8 (ofB (mixK (subA (stA ks b n) 16) c))), .vec vS 5 1 16 (nums .u8 (ofB (stA ks b n))), .vec vt 5 1 16 (nums .u8 (ofB (subA (stA ks b n) 16))), .blk b2 ⟨[vk, vs], 2, 70⟩] H_) _ ⟨0, nilV, vS, vt, _, rfl, (by omega), Slots.eq ⟨(by rfl), (by rfl), (by rfl), (by rfl), (by rfl), (by rfl),  trivial⟩, (by rw [mixK_zero]; exact hSl1)⟩ ?_
   rintro m_ _ Hl2 ⟨c, vu, vS, vt, e0, rfl, hf, rfl, hSl2⟩
   try clear hSl1
   refine AW.seq ?_
   refine AW.seq ?_
   refine AW.region ?_
   refine OpsW.q rfl (q_move (v := .int _ _) rfl) ?_
   refine OpsW.q rfl (q_lss rfl rfl) ?_
   refine OpsW.nil ?_
   refine SeqP.go ?_
   refine AW.cond2 rfl (fun h3 => ?_) (fun h3 => ?_)
   ·
    try simp only [z1, z2, z3, z4, z5, z6, z7, z8, z9, z10, z11, z12, z13, z14] at h3
    refine AW.exit ?_
    refine SeqP.exit ?_
    refine LoopP.exit ?_
    obtain rfl : c = 4 := by omega
    replace hrl := mixK_length (subA (stA ks b n) 16) 4
    refine BlockP.here ?_
    refine SeqP.go ?_
    refine AW.region ?_
    refine OpsW.q rfl (q_move (v := vu) rfl) ?_
    refine OpsW.q rfl (q_assign (v := vu) rfl) ?_
    refine OpsW.nil ?_
    refine SeqP.go ?_
    refine AW.region ?_
    refine OpsW.q rfl (q_move (v := vu) rfl) ?_
    refine OpsW.q rfl (q_fieldAddr (sz := 0) Tryz.underlying70 rfl (by kernel_rfl) rfl) ?_
    refine OpsW.q rfl (q_load (v := vk) (by kernel_rfl) rfl (hSl2.blk at3) rfl) ?_
    refine OpsW.q rfl (q_move (v := .int _ _) rfl) ?_
    refine OpsW.q rfl (q_indexV1 (hVk.le hSl2.le) Tryz.underlying43 (by kernel_rfl) rfl rfl (by omega) (by omega)) ?_
    refine OpsW.q rfl (q_loadVS (hVk.le hSl2.le) (by kernel_rfl) rfl (by omega)) ?_
    have hrn := rkey_length hk (i := n + 1) (by omega)
    rw [show ((n + 1 : Nat) : Int).toNat = n + 1 from Int.toNat_natCast _, keysS_get (by omega)]
    refine OpsW.m rfl (o_call rfl Tryz.func92 rfl rfl (withR_con (hSl2.vec at0) hrl hrn)) ?_
    rintro v105 H4 hR4
    have hS4 := hSl2.join hR4
    simp only [List.cons_append, List.nil_append] at hS4
    clear hR4 hSl2
    refine OpsW.q rfl (q_assign (v := v105) rfl) ?_
    refine OpsW.nil ?_
    refine BlockP.go ?_
    refine SeqP.go ?_
    refine AW.region ?_
    refine OpsW.q rfl (q_move (v := .int _ _) rfl) ?_
    refine OpsW.q rfl (q_addI rfl rfl (by omega)) ?_
    refine OpsW.q rfl (q_assign (v := .int _ _) rfl) ?_
    refine OpsW.nil ?_
    replace hS4 := hS4.del del1
    replace hS4 := hS4.del del1
    replace hS4 := hS4.del del1
    exact LoopP.go _ (by omega) ⟨n + 1, v105, _, rfl, (by omega), Slots.eq ⟨(by rfl), (by rfl), (by rfl),  trivial⟩, (by rw [stA_succ, roundA, if_pos (by omega)]; exact hS4)⟩
   try simp only [z1, z2, z3, z4, z5, z6, z7, z8, z9, z10, z11, z12, z13, z14] at h3
   refine AW.skip ?_
   refine SeqP.go ?_
   refine AW.seq ?_
   refine AW.block ?_
   refine AW.seq ?_
   refine AW.region ?_
   refine OpsW.q rfl (q_assign (v := .int _ _) rfl) ?_
   refine OpsW.nil ?_
   refine SeqP.go ?_
   refine AW.block ?_
   refine AW.loop (fun m_ e_ H_ => ∃ (r : Nat) (vu vS vt : Value) (e0 : Env), m_ = 4 - r ∧ (r ≤ 4) ∧ e_ = upds e0 [(2, .pointer (some ⟨b2, 0, none⟩)), (5, vS), (6, .int .i64 ((n + 1 : Nat) : Int)), (7, vt), (9, vu), (10, .int .i64 ((4 * c : Nat) : Int)), (11, .int .i64 (r : Int))] ∧ Sep H [.vec vu 5 1 ((4 * c + r)) (nums .u8 (ofB (mixU (subA (stA ks b n) 16) c r))), .vec vS 5 1 16 (nums .u8 (ofB (stA ks b n))), .vec vt 5 1 16 (nums .u8 (ofB (subA (stA ks b n) 16))), .blk b2 ⟨[vk, vs], 2, 70⟩] H_) _ ⟨0, vu, vS, vt, _, rfl, (by omega), Slots.eq ⟨(by rfl), (by rfl), (by rfl), (by rfl), (by rfl), (by rfl), (by rfl),  trivial⟩, (by rw [mixU_zero]; exact hSl2)⟩ ?_
   rintro m_ _ Hl3 ⟨r, vu, vS, vt, e0, rfl, hf, rfl, hSl3⟩
   try clear hSl2
   have hq0 : (((4 * c : Nat) : Int) + (r : Int)).toNat = 4 * c + r := by omega
   have hq1 : (((4 * c : Nat) : Int) + (((r : Int) + 1) % 4)).toNat = 4 * c + (r + 1) % 4 := by omega
   have hq2 : (((4 * c : Nat) : Int) + (((r : Int) + 2) % 4)).toNat = 4 * c + (r + 2) % 4 := by omega
   have hq3 : (((4 * c : Nat) : Int) + (((r : Int) + 3) % 4)).toNat = 4 * c + (r + 3) % 4 := by omega
   refine AW.seq ?_
   refine AW.seq ?_
   refine AW.region ?_
   refine OpsW.q rfl (q_move (v := .int _ _) rfl) ?_
   refine OpsW.q rfl (q_lss rfl rfl) ?_
   refine OpsW.nil ?_
   refine SeqP.go ?_
   refine AW.cond2 rfl (fun h4 => ?_) (fun h4 => ?_)
   ·
    try simp only [z1, z2, z3, z4, z5, z6, z7, z8, z9, z10, z11, z12, z13, z14] at h4
    refine AW.exit ?_
    refine SeqP.exit ?_
    refine LoopP.exit ?_
    obtain rfl : r = 4 := by omega
    refine BlockP.here ?_
    refine BlockP.go ?_
    refine SeqP.go ?_
    refine AW.region ?_
    refine OpsW.q rfl (q_move (v := .int _ _) rfl) ?_
    refine OpsW.q rfl (q_addI rfl rfl (by omega)) ?_
    refine OpsW.q rfl (q_assign (v := .int _ _) rfl) ?_
    refine OpsW.nil ?_
    exact LoopP.go _ (by omega) ⟨c + 1, vu, vS, vt, _, rfl, (by omega), Slots.eq ⟨(by rfl), (by rfl), (by rfl), (by rfl), (by rfl), (by rfl),  trivial⟩, (by rw [← mixU_four]; exact hSl3)⟩
   try simp only [z1, z2, z3, z4, z5, z6, z7, z8, z9, z10, z11, z12, z13, z14] at h4
   refine AW.skip ?_
   refine SeqP.go ?_
   refine AW.seq ?_
   refine AW.block ?_
   refine AW.seq ?_
   refine AW.drawK [] 38 rfl (by kernel_rfl) ?_
   refine SeqK.q rfl (q_move (v := vt) rfl) ?_
   refine SeqK.q rfl (q_move (v := .int _ _) rfl) ?_
   refine SeqK.q rfl (q_move (v := .int _ _) rfl) ?_
   refine SeqK.q rfl (q_addI rfl rfl (by omega)) ?_
   refine SeqK.q rfl (q_indexV1 (hSl3.vec at2) Tryz.underlying35 (by kernel_rfl) rfl rfl (by omega) (by omega)) ?_
   refine SeqK.q rfl (q_loadVB (hSl3.vec at2) (by kernel_rfl) rfl (by omega)) ?_
   refine SeqK.q rfl (q_convBI rfl Tryz.underlying3 rfl) ?_
   refine SeqK.q rfl (o_call rfl Tryz.func90 rfl rfl (timesR_con (UInt8.toNat_lt _) (by decide))) ?_
   refine SeqK.q rfl (q_move (v := vt) rfl) ?_
   refine SeqK.q rfl (q_move (v := .int _ _) rfl) ?_
   refine SeqK.q rfl (q_move (v := .int _ _) rfl) ?_
   refine SeqK.q rfl (q_addI rfl rfl (by omega)) ?_
   refine SeqK.q rfl (q_remI rfl rfl (by omega)) ?_
   refine SeqK.q rfl (q_addI rfl rfl (by omega)) ?_
   refine SeqK.q rfl (q_indexV1 (hSl3.vec at2) Tryz.underlying35 (by kernel_rfl) rfl rfl (by omega) (by omega)) ?_
   refine SeqK.q rfl (q_loadVB (hSl3.vec at2) (by kernel_rfl) rfl (by omega)) ?_
   refine SeqK.q rfl (q_convBI rfl Tryz.underlying3 rfl) ?_
   refine SeqK.q rfl (o_call rfl Tryz.func90 rfl rfl (timesR_con (UInt8.toNat_lt _) (by decide))) ?_
   refine SeqK.q rfl (q_xor rfl rfl) ?_
   refine SeqK.q rfl (q_move (v := vt) rfl) ?_
   refine SeqK.q rfl (q_move (v := .int _ _) rfl) ?_
   refine SeqK.q rfl (q_move (v := .int _ _) rfl) ?_
   refine SeqK.q rfl (q_addI rfl rfl (by omega)) ?_
   refine SeqK.q rfl (q_remI rfl rfl (by omega)) ?_
   refine SeqK.q rfl (q_addI rfl rfl (by omega)) ?_
   refine SeqK.q rfl (q_indexV1 (hSl3.vec at2) Tryz.underlying35 (by kernel_rfl) rfl rfl (by omega) (by omega)) ?_
   refine SeqK.q rfl (q_loadVB (hSl3.vec at2) (by kernel_rfl) rfl (by omega)) ?_
   refine SeqK.q rfl (q_convBI rfl Tryz.underlying3 rfl) ?_
   refine SeqK.q rfl (q_xor rfl rfl) ?_
   refine SeqK.q rfl (q_move (v := vt) rfl) ?_
   refine SeqK.q rfl (q_move (v := .int _ _) rfl) ?_
   refine SeqK.q rfl (q_move (v := .int _ _) rfl) ?_
   refine SeqK.q rfl (q_addI rfl rfl (by omega)) ?_
   refine SeqK.q rfl (q_remI rfl rfl (by omega)) ?_
   refine SeqK.q rfl (q_addI rfl rfl (by omega)) ?_
   refine SeqK.q rfl (q_indexV1 (hSl3.vec at2) Tryz.underlying35 (by kernel_rfl) rfl rfl (by omega) (by omega)) ?_
   refine SeqK.q rfl (q_loadVB (hSl3.vec at2) (by kernel_rfl) rfl (by omega)) ?_
   refine SeqK.q rfl (q_convBI rfl Tryz.underlying3 rfl) ?_
   refine SeqK.done ?_
   refine OpsW.q rfl (q_xor rfl rfl) ?_
   rw [hq0, hq1, hq2, hq3, mix_int]
   refine OpsW.q rfl (q_assign (v := .int _ _) rfl) ?_
   refine OpsW.nil ?_
   refine SeqP.go ?_
   refine AW.region ?_
   refine OpsW.q rfl (q_move (v := vu) rfl) ?_
   refine OpsW.q rfl (q_move (v := .int _ _) rfl) ?_
   refine OpsW.q rfl (q_convIB rfl Tryz.underlying5 rfl) ?_
   refine OpsW.m rfl (s_buildSlice (z := .int .u8 0) (vs := nums .u8 (ofB [_])) hSl3 Tryz.underlying35 (by kernel_rfl) (by kernel_rfl) rfl (by rfl) (by rfl) (by decide) rfl (nums_one _ _) rfl) ?_
   rintro v96 H5 hS5
   clear hSl3
   refine OpsW.m rfl (s_append (sz := 1) (by_ := 1) (z := .int .u8 0) hS5 at1 Tryz.underlying35 (by kernel_rfl) (by kernel_rfl) (by kernel_rfl) rfl (by kernel_rfl) rfl rfl (src_vec (hS5.vec at0) (nums_one _ _)) (by unfold maxLen; omega) (by omega)) ?_
   rintro v97 H6 hS6
   clear hS5
   replace hS6 := hS6.del del0
   refine OpsW.q rfl (q_assign (v := v97) rfl) ?_
   refine OpsW.nil ?_
   refine BlockP.go ?_
   refine SeqP.go ?_
   refine AW.region ?_
   refine OpsW.q rfl (q_move (v := .int _ _) rfl) ?_
   refine OpsW.q rfl (q_addI rfl rfl (by omega)) ?_
   refine OpsW.q rfl (q_assign (v := .int _ _) rfl) ?_
   refine OpsW.nil ?_
   exact LoopP.go _ (by omega) ⟨r + 1, v97, vS, vt, _, rfl, (by omega), Slots.eq ⟨(by rfl), (by rfl), (by rfl), (by rfl), (by rfl), (by rfl), (by rfl),  trivial⟩, (by rw [mixU_succ _ _ (by omega), colA_get _ _ (by omega), ofB_app, nums_append]; exact hS6)⟩
  try simp only [z1, z2, z3, z4, z5, z6, z7, z8, z9, z10, z11, z12, z13, z14] at h2
  refine AW.skip ?_
  refine SeqP.go ?_
  refine AW.region ?_
  refine OpsW.q rfl (q_move (v := vt) rfl) ?_
  refine OpsW.q rfl (q_fieldAddr (sz := 0) Tryz.underlying70 rfl (by kernel_rfl) rfl) ?_
  refine OpsW.q rfl (q_load (v := vk) (by kernel_rfl) rfl (hSl1.blk at2) rfl) ?_
  refine OpsW.q rfl (q_move (v := .int _ _) rfl) ?_
  refine OpsW.q rfl (q_indexV1 (hVk.le hSl1.le) Tryz.underlying43 (by kernel_rfl) rfl rfl (by omega) (by omega)) ?_
  refine OpsW.q rfl (q_loadVS (hVk.le hSl1.le) (by kernel_rfl) rfl (by omega)) ?_
  have hrn := rkey_length hk (i := n + 1) (by omega)
  rw [show ((n + 1 : Nat) : Int).toNat = n + 1 from Int.toNat_natCast _, keysS_get (by omega)]
  refine OpsW.m rfl (o_call rfl Tryz.func92 rfl rfl (withR_con (hSl1.vec at0) hrl hrn)) ?_
  rintro v105 H7 hR7
  have hS7 := hSl1.join hR7
  simp only [List.cons_append, List.nil_append] at hS7
  clear hR7 hSl1
  refine OpsW.q rfl (q_assign (v := v105) rfl) ?_
  refine OpsW.nil ?_
  refine BlockP.go ?_
  refine SeqP.go ?_
  refine AW.region ?_
  refine OpsW.q rfl (q_move (v := .int _ _) rfl) ?_
  refine OpsW.q rfl (q_addI rfl rfl (by omega)) ?_
  refine OpsW.q rfl (q_assign (v := .int _ _) rfl) ?_
  refine OpsW.nil ?_
  replace hS7 := hS7.del del1
  replace hS7 := hS7.del del1
  exact LoopP.go _ (by omega) ⟨n + 1, v105, _, rfl, (by omega), Slots.eq ⟨(by rfl), (by rfl), (by rfl),  trivial⟩, (by rw [stA_succ, roundA, if_neg (by omega)]; exact hS7)⟩
 try simp only [z1, z2, z3, z4, z5, z6, z7, z8, z9, z10, z11, z12, z13, z14] at h1
 refine AW.skip ?_
 refine SeqP.go ?_
 refine AW.seq ?_
 refine AW.block ?_
 refine AW.drawD 14 0 rfl (by kernel_rfl) (by kernel_rfl) ?_
 refine SeqD.a rfl (fun _ => q_move (v := vt) rfl) ?_
 refine SeqD.a rfl (fun _ => q_fieldAddr (sz := 0) Tryz.underlying70 rfl (by kernel_rfl) rfl) ?_
 refine SeqD.b (by kernel_rfl) rfl (q_load (v := vs) (by kernel_rfl) rfl (hSl1.blk at2) rfl) ?_
 refine SeqD.a rfl (fun _ => q_move (v := vS) rfl) ?_
 refine SeqD.a rfl (fun _ => q_move (v := .int _ _) rfl) ?_
 refine SeqD.a rfl (fun _ => q_move (v := .int _ _) rfl) ?_
 refine SeqD.a rfl (fun _ => q_remI rfl rfl (by omega)) ?_
 refine SeqD.a rfl (fun _ => q_mulI rfl rfl (by omega)) ?_
 refine SeqD.a rfl (fun _ => q_addI rfl rfl (by omega)) ?_
 refine SeqD.a rfl (fun _ => q_remI rfl rfl (by omega)) ?_
 refine SeqD.b (by kernel_rfl) rfl (q_indexV1 (hSl1.vec at1) Tryz.underlying35 (by kernel_rfl) rfl rfl (by omega) (by omega)) ?_
 refine SeqD.b (by kernel_rfl) rfl (q_loadVB (hSl1.vec at1) (by kernel_rfl) rfl (by omega)) ?_
 refine SeqD.b (by kernel_rfl) rfl (q_indexV1 (hVs.le hSl1.le) Tryz.underlying35 (by kernel_rfl) rfl rfl (by omega) (by omega)) ?_
 refine SeqD.b (by kernel_rfl) rfl (q_loadVB (hVs.le hSl1.le) (by kernel_rfl) rfl (by omega)) ?_
 refine SeqD.x rfl (s_buildSlice (z := .int .u8 0) (vs := nums .u8 (ofB [_])) hSl1 Tryz.underlying35 (by kernel_rfl) (by kernel_rfl) rfl (by rfl) (by rfl) (by decide) rfl (nums_one _ _) rfl) ?_
 rintro v42 H8 hS8
 clear hSl1
 refine ⟨trivial, ?_⟩
 refine SeqR2.done ?_
 refine OpsW.m rfl (s_append (sz := 1) (by_ := 1) (z := .int .u8 0) hS8 at1 Tryz.underlying35 (by kernel_rfl) (by kernel_rfl) (by kernel_rfl) rfl (by kernel_rfl) rfl rfl (src_vec (hS8.vec at0) (nums_one _ _)) (by unfold maxLen; omega) (by omega)) ?_
 rintro v43 H9 hS9
 clear hS8
 replace hS9 := hS9.del del0
 refine OpsW.q rfl (q_assign (v := v43) rfl) ?_
 refine OpsW.nil ?_
 refine BlockP.go ?_
 refine SeqP.go ?_
 refine AW.region ?_
 refine OpsW.q rfl (q_move (v := .int _ _) rfl) ?_
 refine OpsW.q rfl (q_addI rfl rfl (by omega)) ?_
 refine OpsW.q rfl (q_assign (v := .int _ _) rfl) ?_
 refine OpsW.nil ?_
 exact LoopP.go _ (by omega) ⟨i + 1, v43, vS, _, rfl, (by omega), Slots.eq ⟨(by rfl), (by rfl), (by rfl), (by rfl), (by rfl),  trivial⟩, (by rw [subA_succ, ofB_app, nums_append, ← sb_get]; have hq := hS9; rw [Int.toNat_natCast, hi5] at hq; exact hq)⟩
end
end Go.Proofs.YtfpoldogcopmpaaGreatDoor
end
section
namespace Go.Proofs.YtfpoldogcopmpaaGreatDoor
open Go Go.RowKit D
set_option linter.unusedVariables false
set_option linter.unusedSimpArgs false
set_option maxRecDepth 100000
set_option maxHeartbeats 2000000
section
variable {w0 : World} {H : Hp} {H0 : Hp}
theorem bitR_con {vb : Value} {b : List UInt8} {n : Nat} (hVb : Vec H 5 1 vb 16 (nums .u8 (ofB b))) (hb : b.length = 16) (hn : n < 128) : Con Tryz.prog w0 115 #[vb, .int .i64 (n : Int)] H (fun v H' => v = .int .u8 ((beK b 16 / 2 ^ (127 - n) % 2 : Nat) : Int) ∧ H' = H) := by
 have hS0 : Sep H [] H := Sep.refl
 refine Con.intro Tryz.func115 rfl rfl ?_
 refine AW.seq ?_
 refine AW.region ?_
 refine OpsW.q rfl (q_assign (v := .int _ _) rfl) ?_
 refine OpsW.nil ?_
 refine SeqP.go ?_
 refine AW.seq ?_
 refine AW.region ?_
 refine OpsW.q rfl (q_move (v := vb) rfl) ?_
 refine OpsW.q rfl (q_move (v := .int _ _) rfl) ?_
 refine OpsW.q rfl (q_quoI rfl rfl (by omega)) ?_
 refine OpsW.q rfl (q_indexV1 (hVb.le hS0.le) Tryz.underlying35 (by kernel_rfl) rfl rfl (by omega) (by omega)) ?_
 refine OpsW.q rfl (q_loadVB (hVb.le hS0.le) (by kernel_rfl) rfl (by omega)) ?_
 rw [show ((n : Int) / 8).toNat = n / 8 from by omega]
 refine OpsW.q rfl (q_move (v := .int _ _) rfl) ?_
 refine OpsW.q rfl (q_remI rfl rfl (by omega)) ?_
 refine OpsW.q rfl (q_subI rfl rfl (by omega)) ?_
 refine OpsW.q rfl (q_shr rfl rfl (by omega)) ?_
 refine OpsW.q rfl (q_and rfl rfl) ?_
 refine OpsW.q rfl (q_assign (v := .int _ _) rfl) ?_
 refine OpsW.nil ?_
 refine SeqP.go ?_
 refine AW.ret ?_
 refine RetP.mk1 (H' := H) (v1 := .int _ _) rfl rfl  hS0.le ?_
 refine ⟨?_, rfl⟩
 rw [← bit_eq b hn]
theorem timesG_con {va vb : Value} {a b : List UInt8} (hVa : Vec H 5 1 va 16 (nums .u8 (ofB a))) (hVb : Vec H 5 1 vb 16 (nums .u8 (ofB b))) (ha : a.length = 16) (hb : b.length = 16) : Con Tryz.prog w0 93 #[va, vb] H (fun v H' => Sep H [.vec v 5 1 16 (nums .u8 (ofB (byL (gm (beK a 16) (beK b 16)) 16)))] H') := by
 have hS0 : Sep H [] H := Sep.refl
 refine Con.intro Tryz.func93 rfl rfl ?_
 refine AW.seq ?_
 refine AW.region ?_
 refine OpsW.q rfl (q_assign (v := .slice _ _ _) rfl) ?_
 refine OpsW.nil ?_
 refine SeqP.go ?_
 refine AW.seq ?_
 refine AW.region ?_
 refine OpsW.m rfl (s_makeSliceB (by_ := 1) hS0 Tryz.underlying35 (by kernel_rfl) (by kernel_rfl) (by kernel_rfl) rfl rfl (by omega) (by omega) (by omega) (by omega) (by unfold maxLen; omega)) ?_
 rintro v11 H1 hS1
 clear hS0
 refine OpsW.q rfl (q_assign (v := v11) rfl) ?_
 refine OpsW.nil ?_
 refine SeqP.go ?_
 refine AW.seq ?_
 refine AW.region ?_
 refine OpsW.q rfl (q_assign (v := .slice _ _ _) rfl) ?_
 refine OpsW.nil ?_
 refine SeqP.go ?_
 refine AW.seq ?_
 refine AW.region ?_
 refine OpsW.q rfl (q_move (v := .slice _ _ _) rfl) ?_
 refine OpsW.q rfl (q_move (v := va) rfl) ?_
 refine OpsW.m rfl (s_append0 (sz := 1) (by_ := 1) (z := .int .u8 0) hS1 Tryz.underlying35 (by kernel_rfl) (by kernel_rfl) (by kernel_rfl) rfl (by kernel_rfl) rfl rfl (src_vec (hVa.le hS1.le) (nums_one _ _)) (by unfold maxLen; omega) (by omega)) ?_
 rintro v14 H2 hS2
 clear hS1
 refine OpsW.q rfl (q_assign (v := v14) rfl) ?_
 refine OpsW.nil ?_
 refine SeqP.go ?_
 refine AW.seq ?_
 refine AW.seq ?_
 refine AW.region ?_
 refine OpsW.q rfl (q_assign (v := .int _ _) rfl) ?_
 refine OpsW.nil ?_
 refine SeqP.go ?_
 refine AW.block ?_
 replace hS2 := Sep.bring del0 hS2
 replace hS2 := Sep.bring del1 hS2
 refine AW.loop (fun m_ e_ H_ => ∃ (n : Nat) (vo vv : Value) (e0 : Env), m_ = 128 - n ∧ (n ≤ 128) ∧ e_ = upds e0 [(1, vb), (5, vo), (6, vv), (7, .int .i64 (n : Int))] ∧ Sep H [.vec vo 5 1 16 (nums .u8 (ofB (byL (gmK (beK a 16) (beK b 16) n) 16))), .vec vv 5 1 16 (nums .u8 (ofB (byL (shI (beK a 16) n) 16)))] H_) _ ⟨0, v11, v14, _, rfl, (by omega), Slots.eq ⟨(by rfl), (by rfl), (by rfl), (by rfl),  trivial⟩, (by have hs := hS2; rw [gmK_zero', shI_zero', byL_beK ha, byL_zero16, zs_eq]; exact hs)⟩ ?_
 rintro m_ _ Hl0 ⟨n, vo, vv, e0, rfl, hf, rfl, hSl0⟩
 try clear hS2
 have hg := gmK_lt (beK_lt128 a) (beK b 16) n
 have hs := shI_lt (beK_lt128 a) n
 have lg := byL_length (gmK (beK a 16) (beK b 16) n) 16
 have lv := byL_length (shI (beK a 16) n) 16
 have lbit := last_bit hs
 refine AW.seq ?_
 refine AW.seq ?_
 refine AW.region ?_
 refine OpsW.q rfl (q_move (v := .int _ _) rfl) ?_
 refine OpsW.q rfl (q_lss rfl rfl) ?_
 refine OpsW.nil ?_
 refine SeqP.go ?_
 refine AW.cond2 rfl (fun h0 => ?_) (fun h0 => ?_)
 ·
  try simp only [z1, z2, z3, z4, z5, z6, z7, z8, z9, z10, z11, z12, z13, z14] at h0
  refine AW.exit ?_
  refine SeqP.exit ?_
  refine LoopP.exit ?_
  obtain rfl : n = 128 := by omega
  refine BlockP.here ?_
  refine SeqP.go ?_
  refine AW.seq ?_
  refine AW.region ?_
  refine OpsW.q rfl (q_move (v := vo) rfl) ?_
  refine OpsW.q rfl (q_assign (v := vo) rfl) ?_
  refine OpsW.nil ?_
  refine SeqP.go ?_
  refine AW.ret ?_
  refine RetP.mk1 (H' := Hl0) (v1 := vo) rfl rfl  (Hp.le_refl _) ?_
  rw [gm_def]
  exact hSl0.del del1
 try simp only [z1, z2, z3, z4, z5, z6, z7, z8, z9, z10, z11, z12, z13, z14] at h0
 refine AW.skip ?_
 refine SeqP.go ?_
 refine AW.seq ?_
 refine AW.block ?_
 refine AW.seq ?_
 refine AW.seq ?_
 refine AW.region ?_
 refine OpsW.q rfl (q_move (v := vb) rfl) ?_
 refine OpsW.q rfl (q_move (v := .int _ _) rfl) ?_
 refine OpsW.q rfl (o_call rfl Tryz.func115 rfl rfl (bitR_con (hVb.le hSl0.le) hb (by omega))) ?_
 refine OpsW.q rfl (q_eql rfl rfl) ?_
 refine OpsW.nil ?_
 refine SeqP.go ?_
 refine AW.cond rfl (fun h1 => ?_) (fun h1 => ?_)
 ·
  try simp only [z1, z2, z3, z4, z5, z6, z7, z8, z9, z10, z11, z12, z13, z14] at h1
  have hbt : beK b 16 / 2 ^ (127 - n) % 2 = 1 := by omega
  refine AW.seq ?_
  refine AW.region ?_
  refine OpsW.q rfl (q_assign (v := .int _ _) rfl) ?_
  refine OpsW.nil ?_
  refine SeqP.go ?_
  refine AW.block ?_
  refine AW.loop (fun m_ e_ H_ => ∃ (i : Nat) (e0 : Env), m_ = 16 - i ∧ (i ≤ 16) ∧ e_ = upds e0 [(1, vb), (5, vo), (6, vv), (7, .int .i64 (n : Int)), (8, .int .i64 (i : Int))] ∧ Sep H [.vec vo 5 1 16 (nums .u8 (ofB (withK (byL (gmK (beK a 16) (beK b 16) n) 16) (byL (shI (beK a 16) n) 16) i))), .vec vv 5 1 16 (nums .u8 (ofB (byL (shI (beK a 16) n) 16)))] H_) _ ⟨0, _, rfl, (by omega), Slots.eq ⟨(by rfl), (by rfl), (by rfl), (by rfl), (by rfl),  trivial⟩, (by rw [withK_zero]; exact hSl0)⟩ ?_
  rintro m_ _ Hl1 ⟨i, e0, rfl, hf, rfl, hSl1⟩
  try clear hSl0
  have hwl := withK_length (byL (gmK (beK a 16) (beK b 16) n) 16) (byL (shI (beK a 16) n) 16) i
  refine AW.seq ?_
  refine AW.seq ?_
  refine AW.region ?_
  refine OpsW.q rfl (q_move (v := .int _ _) rfl) ?_
  refine OpsW.q rfl (q_lss rfl rfl) ?_
  refine OpsW.nil ?_
  refine SeqP.go ?_
  refine AW.cond2 rfl (fun h2 => ?_) (fun h2 => ?_)
  ·
   try simp only [z1, z2, z3, z4, z5, z6, z7, z8, z9, z10, z11, z12, z13, z14] at h2
   refine AW.exit ?_
   refine SeqP.exit ?_
   refine LoopP.exit ?_
   obtain rfl : i = 16 := by omega
   rw [withK_eq lg, byL_xor hg hs, ← gmK_yes hbt] at hSl1
   refine BlockP.here ?_
   refine SeqP.go ?_
   refine AW.seq ?_
   refine AW.region ?_
   refine OpsW.q rfl (q_move (v := vv) rfl) ?_
   refine OpsW.q rfl (q_indexV1 (hSl1.vec at1) Tryz.underlying35 (by kernel_rfl) rfl rfl (by omega) (by omega)) ?_
   refine OpsW.q rfl (q_loadVB (hSl1.vec at1) (by kernel_rfl) rfl (by omega)) ?_
   refine OpsW.q rfl (q_andB (b := 1) rfl rfl) ?_
   refine OpsW.q rfl (q_assign (v := .int _ _) rfl) ?_
   refine OpsW.nil ?_
   refine SeqP.go ?_
   refine AW.seq ?_
   refine AW.seq ?_
   refine AW.region ?_
   refine OpsW.q rfl (q_assign (v := .int _ _) rfl) ?_
   refine OpsW.nil ?_
   refine SeqP.go ?_
   refine AW.block ?_
   refine AW.loop (fun m_ e_ H_ => ∃ (i : Nat) (e0 : Env), m_ = i + 1 ∧ (i ≤ 15) ∧ e_ = upds e0 [(1, vb), (5, vo), (6, vv), (7, .int .i64 (n : Int)), (9, BV ((byL (shI (beK a 16) n) 16).getD 15 0 &&& 1)), (10, .int .i64 (i : Int))] ∧ Sep H [.vec vo 5 1 16 (nums .u8 (ofB (byL (gmK (beK a 16) (beK b 16) (n + 1)) 16))), .vec vv 5 1 16 (nums .u8 (ofB (shD (byL (shI (beK a 16) n) 16) (15 - i))))] H_) _ ⟨15, _, rfl, (by omega), Slots.eq ⟨(by rfl), (by rfl), (by rfl), (by rfl), (by rfl), (by rfl),  trivial⟩, (by rw [show 15 - 15 = 0 from rfl, shD_zero]; exact hSl1)⟩ ?_
   rintro m_ _ Hl2 ⟨i, e0, rfl, hf, rfl, hSl2⟩
   try clear hSl1
   have hdl := shD_length (byL (shI (beK a 16) n) 16) (15 - i)
   refine AW.seq ?_
   refine AW.seq ?_
   refine AW.region ?_
   refine OpsW.q rfl (q_move (v := .int _ _) rfl) ?_
   refine OpsW.q rfl (q_gtr rfl rfl) ?_
   refine OpsW.nil ?_
   refine SeqP.go ?_
   refine AW.cond2 rfl (fun h3 => ?_) (fun h3 => ?_)
   ·
    try simp only [z1, z2, z3, z4, z5, z6, z7, z8, z9, z10, z11, z12, z13, z14] at h3
    refine AW.exit ?_
    refine SeqP.exit ?_
    refine LoopP.exit ?_
    obtain rfl : i = 0 := by omega
    rw [show 15 - 0 = 15 from rfl] at hSl2
    have hdf : (shD (byL (shI (beK a 16) n) 16) 15).length = 16 := by rw [shD_length, lv]
    refine BlockP.here ?_
    refine SeqP.go ?_
    refine AW.seq ?_
    refine AW.region ?_
    refine OpsW.q rfl (q_move (v := vv) rfl) ?_
    refine OpsW.q rfl (q_move (v := vv) rfl) ?_
    refine OpsW.q rfl (q_indexV1 (hSl2.vec at1) Tryz.underlying35 (by kernel_rfl) rfl rfl (by omega) (by omega)) ?_
    refine OpsW.q rfl (q_loadVB (hSl2.vec at1) (by kernel_rfl) rfl (by omega)) ?_
    refine OpsW.q rfl (q_shrL 1 rfl rfl (by decide) rfl) ?_
    rw [hb_top]
    refine OpsW.q rfl (q_indexV1 (hSl2.vec at1) Tryz.underlying35 (by kernel_rfl) rfl rfl (by omega) (by omega)) ?_
    refine OpsW.ms (s_storeVB hSl2 at1 (by kernel_rfl) rfl rfl (by omega)) ?_
    rintro _ H3 ⟨rfl, hS3⟩
    clear hSl2
    refine OpsW.nil ?_
    refine SeqP.go ?_
    refine AW.seq ?_
    refine AW.region ?_
    refine OpsW.q rfl (q_move (v := .int _ _) rfl) ?_
    refine OpsW.q rfl (q_eql rfl rfl) ?_
    refine OpsW.nil ?_
    refine SeqP.go ?_
    refine AW.cond rfl (fun h4 => ?_) (fun h4 => ?_)
    ·
     try simp only [z1, z2, z3, z4, z5, z6, z7, z8, z9, z10, z11, z12, z13, z14] at h4
     refine AW.region ?_
     refine OpsW.q rfl (q_move (v := vv) rfl) ?_
     refine OpsW.q rfl (q_move (v := vv) rfl) ?_
     refine OpsW.q rfl (q_indexV1 (hS3.vec at1) Tryz.underlying35 (by kernel_rfl) rfl rfl (by omega) (by omega)) ?_
     refine OpsW.q rfl (q_loadVB (hS3.vec at1) (by kernel_rfl) rfl (by simp only [nums_length, List.length_set, List.length_replicate, List.length_take, List.length_drop, List.length_append, List.length_cons, List.length_nil, ofB_length, toB_length]; omega)) ?_
     refine OpsW.q rfl (q_xorB (b := 225) rfl rfl) ?_
     refine OpsW.q rfl (q_indexV1 (hS3.vec at1) Tryz.underlying35 (by kernel_rfl) rfl rfl (by omega) (by omega)) ?_
     refine OpsW.ms (s_storeVB hS3 at1 (by kernel_rfl) rfl rfl (by simp only [nums_length, List.length_set, List.length_replicate, List.length_take, List.length_drop, List.length_append, List.length_cons, List.length_nil, ofB_length, toB_length]; omega)) ?_
     rintro _ H4 ⟨rfl, hS4⟩
     clear hS3
     refine OpsW.nil ?_
     refine BlockP.go ?_
     refine SeqP.go ?_
     refine AW.region ?_
     refine OpsW.q rfl (q_move (v := .int _ _) rfl) ?_
     refine OpsW.q rfl (q_addI rfl rfl (by omega)) ?_
     refine OpsW.q rfl (q_assign (v := .int _ _) rfl) ?_
     refine OpsW.nil ?_
     exact LoopP.go _ (by omega) ⟨n + 1, vo, vv, _, rfl, (by omega), Slots.eq ⟨(by rfl), (by rfl), (by rfl), (by rfl),  trivial⟩, (by have hs9 := hS4; have hs8 := sh_odd hs (by omega); rw [topB_eq] at hs8; rw [shI_succ', ← hs8]; exact hs9)⟩
    try simp only [z1, z2, z3, z4, z5, z6, z7, z8, z9, z10, z11, z12, z13, z14] at h4
    refine AW.skip ?_
    refine BlockP.go ?_
    refine SeqP.go ?_
    refine AW.region ?_
    refine OpsW.q rfl (q_move (v := .int _ _) rfl) ?_
    refine OpsW.q rfl (q_addI rfl rfl (by omega)) ?_
    refine OpsW.q rfl (q_assign (v := .int _ _) rfl) ?_
    refine OpsW.nil ?_
    exact LoopP.go _ (by omega) ⟨n + 1, vo, vv, _, rfl, (by omega), Slots.eq ⟨(by rfl), (by rfl), (by rfl), (by rfl),  trivial⟩, (by have hs9 := hS3; have hs8 := sh_even hs (by omega); rw [topB_eq] at hs8; rw [shI_succ', ← hs8]; exact hs9)⟩
   try simp only [z1, z2, z3, z4, z5, z6, z7, z8, z9, z10, z11, z12, z13, z14] at h3
   refine AW.skip ?_
   refine SeqP.go ?_
   refine AW.seq ?_
   refine AW.block ?_
   refine AW.drawK [] 14 rfl (by kernel_rfl) ?_
   refine SeqK.q rfl (q_move (v := vv) rfl) ?_
   refine SeqK.q rfl (q_move (v := .int _ _) rfl) ?_
   refine SeqK.q rfl (q_move (v := vv) rfl) ?_
   refine SeqK.q rfl (q_move (v := .int _ _) rfl) ?_
   refine SeqK.q rfl (q_indexV1 (hSl2.vec at1) Tryz.underlying35 (by kernel_rfl) rfl rfl (by omega) (by omega)) ?_
   refine SeqK.q rfl (q_loadVB (hSl2.vec at1) (by kernel_rfl) rfl (by omega)) ?_
   refine SeqK.q rfl (q_shrL 1 rfl rfl (by decide) rfl) ?_
   refine SeqK.q rfl (q_move (v := vv) rfl) ?_
   refine SeqK.q rfl (q_move (v := .int _ _) rfl) ?_
   refine SeqK.q rfl (q_subI rfl rfl (by omega)) ?_
   refine SeqK.q rfl (q_indexV1 (hSl2.vec at1) Tryz.underlying35 (by kernel_rfl) rfl rfl (by omega) (by omega)) ?_
   refine SeqK.q rfl (q_loadVB (hSl2.vec at1) (by kernel_rfl) rfl (by omega)) ?_
   refine SeqK.q rfl (q_shlL 7 rfl rfl (by decide) rfl) ?_
   refine SeqK.q rfl (q_or rfl rfl) ?_
   rw [hb_eq]
   refine SeqK.done ?_
   refine OpsW.q rfl (q_indexV1 (hSl2.vec at1) Tryz.underlying35 (by kernel_rfl) rfl rfl (by omega) (by omega)) ?_
   refine OpsW.ms (s_storeVB hSl2 at1 (by kernel_rfl) rfl rfl (by omega)) ?_
   rintro _ H5 ⟨rfl, hS5⟩
   clear hSl2
   refine OpsW.nil ?_
   refine BlockP.go ?_
   refine SeqP.go ?_
   refine AW.region ?_
   refine OpsW.q rfl (q_move (v := .int _ _) rfl) ?_
   refine OpsW.q rfl (q_subI rfl rfl (by omega)) ?_
   refine OpsW.q rfl (q_assign (v := .int _ _) rfl) ?_
   refine OpsW.nil ?_
   exact LoopP.go _ (by omega) ⟨i - 1, _, rfl, (by omega), Slots.eq ⟨(by rfl), (by rfl), (by rfl), (by rfl), (by rfl), (by show Value.int .i64 _ = Value.int .i64 _; exact congrArg _ (by omega)),  trivial⟩, (by have hs9 := hS5; rw [show ((i : Int) - 1).toNat = 15 - 1 - (15 - i) from by omega, Int.toNat_natCast] at hs9; rw [show 15 - (i - 1) = (15 - i) + 1 from by omega, shD_succ', show 15 - (15 - i) = i from by omega, show 14 - (15 - i) = 15 - 1 - (15 - i) from rfl]; exact hs9)⟩
  try simp only [z1, z2, z3, z4, z5, z6, z7, z8, z9, z10, z11, z12, z13, z14] at h2
  refine AW.skip ?_
  refine SeqP.go ?_
  refine AW.seq ?_
  refine AW.block ?_
  refine AW.drawK [] 11 rfl (by kernel_rfl) ?_
  refine SeqK.q rfl (q_move (v := vo) rfl) ?_
  refine SeqK.q rfl (q_move (v := .int _ _) rfl) ?_
  refine SeqK.q rfl (q_move (v := vo) rfl) ?_
  refine SeqK.q rfl (q_move (v := .int _ _) rfl) ?_
  refine SeqK.q rfl (q_indexV1 (hSl1.vec at0) Tryz.underlying35 (by kernel_rfl) rfl rfl (by omega) (by omega)) ?_
  refine SeqK.q rfl (q_loadVB (hSl1.vec at0) (by kernel_rfl) rfl (by omega)) ?_
  refine SeqK.q rfl (q_move (v := vv) rfl) ?_
  refine SeqK.q rfl (q_move (v := .int _ _) rfl) ?_
  refine SeqK.q rfl (q_indexV1 (hSl1.vec at1) Tryz.underlying35 (by kernel_rfl) rfl rfl (by omega) (by omega)) ?_
  refine SeqK.q rfl (q_loadVB (hSl1.vec at1) (by kernel_rfl) rfl (by omega)) ?_
  refine SeqK.q rfl (q_xorB rfl rfl) ?_
  refine SeqK.done ?_
  refine OpsW.q rfl (q_indexV1 (hSl1.vec at0) Tryz.underlying35 (by kernel_rfl) rfl rfl (by omega) (by omega)) ?_
  refine OpsW.ms (s_storeVB hSl1 at0 (by kernel_rfl) rfl rfl (by omega)) ?_
  rintro _ H6 ⟨rfl, hS6⟩
  clear hSl1
  refine OpsW.nil ?_
  refine BlockP.go ?_
  refine SeqP.go ?_
  refine AW.region ?_
  refine OpsW.q rfl (q_move (v := .int _ _) rfl) ?_
  refine OpsW.q rfl (q_addI rfl rfl (by omega)) ?_
  refine OpsW.q rfl (q_assign (v := .int _ _) rfl) ?_
  refine OpsW.nil ?_
  exact LoopP.go _ (by omega) ⟨i + 1, _, rfl, (by omega), Slots.eq ⟨(by rfl), (by rfl), (by rfl), (by rfl), (by rfl),  trivial⟩, (by rw [withK_succ]; exact hS6)⟩
 try simp only [z1, z2, z3, z4, z5, z6, z7, z8, z9, z10, z11, z12, z13, z14] at h1
 have hbt : beK b 16 / 2 ^ (127 - n) % 2 = 0 := by omega
 rw [← gmK_no hbt] at hSl0
 refine AW.skip ?_
 refine SeqP.go ?_
 refine AW.seq ?_
 refine AW.region ?_
 refine OpsW.q rfl (q_move (v := vv) rfl) ?_
 refine OpsW.q rfl (q_indexV1 (hSl0.vec at1) Tryz.underlying35 (by kernel_rfl) rfl rfl (by omega) (by omega)) ?_
 refine OpsW.q rfl (q_loadVB (hSl0.vec at1) (by kernel_rfl) rfl (by omega)) ?_
 refine OpsW.q rfl (q_andB (b := 1) rfl rfl) ?_
 refine OpsW.q rfl (q_assign (v := .int _ _) rfl) ?_
 refine OpsW.nil ?_
 refine SeqP.go ?_
 refine AW.seq ?_
 refine AW.seq ?_
 refine AW.region ?_
 refine OpsW.q rfl (q_assign (v := .int _ _) rfl) ?_
 refine OpsW.nil ?_
 refine SeqP.go ?_
 refine AW.block ?_
 refine AW.loop (fun m_ e_ H_ => ∃ (i : Nat) (e0 : Env), m_ = i + 1 ∧ (i ≤ 15) ∧ e_ = upds e0 [(1, vb), (5, vo), (6, vv), (7, .int .i64 (n : Int)), (9, BV ((byL (shI (beK a 16) n) 16).getD 15 0 &&& 1)), (10, .int .i64 (i : Int))] ∧ Sep H [.vec vo 5 1 16 (nums .u8 (ofB (byL (gmK (beK a 16) (beK b 16) (n + 1)) 16))), .vec vv 5 1 16 (nums .u8 (ofB (shD (byL (shI (beK a 16) n) 16) (15 - i))))] H_) _ ⟨15, _, rfl, (by omega), Slots.eq ⟨(by rfl), (by rfl), (by rfl), (by rfl), (by rfl), (by rfl),  trivial⟩, (by rw [show 15 - 15 = 0 from rfl, shD_zero]; exact hSl0)⟩ ?_
 rintro m_ _ Hl2 ⟨i, e0, rfl, hf, rfl, hSl2⟩
 try clear hSl0
 have hdl := shD_length (byL (shI (beK a 16) n) 16) (15 - i)
 refine AW.seq ?_
 refine AW.seq ?_
 refine AW.region ?_
 refine OpsW.q rfl (q_move (v := .int _ _) rfl) ?_
 refine OpsW.q rfl (q_gtr rfl rfl) ?_
 refine OpsW.nil ?_
 refine SeqP.go ?_
 refine AW.cond2 rfl (fun h3 => ?_) (fun h3 => ?_)
 ·
  try simp only [z1, z2, z3, z4, z5, z6, z7, z8, z9, z10, z11, z12, z13, z14] at h3
  refine AW.exit ?_
  refine SeqP.exit ?_
  refine LoopP.exit ?_
  obtain rfl : i = 0 := by omega
  rw [show 15 - 0 = 15 from rfl] at hSl2
  have hdf : (shD (byL (shI (beK a 16) n) 16) 15).length = 16 := by rw [shD_length, lv]
  refine BlockP.here ?_
  refine SeqP.go ?_
  refine AW.seq ?_
  refine AW.region ?_
  refine OpsW.q rfl (q_move (v := vv) rfl) ?_
  refine OpsW.q rfl (q_move (v := vv) rfl) ?_
  refine OpsW.q rfl (q_indexV1 (hSl2.vec at1) Tryz.underlying35 (by kernel_rfl) rfl rfl (by omega) (by omega)) ?_
  refine OpsW.q rfl (q_loadVB (hSl2.vec at1) (by kernel_rfl) rfl (by omega)) ?_
  refine OpsW.q rfl (q_shrL 1 rfl rfl (by decide) rfl) ?_
  rw [hb_top]
  refine OpsW.q rfl (q_indexV1 (hSl2.vec at1) Tryz.underlying35 (by kernel_rfl) rfl rfl (by omega) (by omega)) ?_
  refine OpsW.ms (s_storeVB hSl2 at1 (by kernel_rfl) rfl rfl (by omega)) ?_
  rintro _ H7 ⟨rfl, hS7⟩
  clear hSl2
  refine OpsW.nil ?_
  refine SeqP.go ?_
  refine AW.seq ?_
  refine AW.region ?_
  refine OpsW.q rfl (q_move (v := .int _ _) rfl) ?_
  refine OpsW.q rfl (q_eql rfl rfl) ?_
  refine OpsW.nil ?_
  refine SeqP.go ?_
  refine AW.cond rfl (fun h4 => ?_) (fun h4 => ?_)
  ·
   try simp only [z1, z2, z3, z4, z5, z6, z7, z8, z9, z10, z11, z12, z13, z14] at h4
   refine AW.region ?_
   refine OpsW.q rfl (q_move (v := vv) rfl) ?_
   refine OpsW.q rfl (q_move (v := vv) rfl) ?_
   refine OpsW.q rfl (q_indexV1 (hS7.vec at1) Tryz.underlying35 (by kernel_rfl) rfl rfl (by omega) (by omega)) ?_
   refine OpsW.q rfl (q_loadVB (hS7.vec at1) (by kernel_rfl) rfl (by simp only [nums_length, List.length_set, List.length_replicate, List.length_take, List.length_drop, List.length_append, List.length_cons, List.length_nil, ofB_length, toB_length]; omega)) ?_
   refine OpsW.q rfl (q_xorB (b := 225) rfl rfl) ?_
   refine OpsW.q rfl (q_indexV1 (hS7.vec at1) Tryz.underlying35 (by kernel_rfl) rfl rfl (by omega) (by omega)) ?_
   refine OpsW.ms (s_storeVB hS7 at1 (by kernel_rfl) rfl rfl (by simp only [nums_length, List.length_set, List.length_replicate, List.length_take, List.length_drop, List.length_append, List.length_cons, List.length_nil, ofB_length, toB_length]; omega)) ?_
   rintro _ H8 ⟨rfl, hS8⟩
   clear hS7
   refine OpsW.nil ?_
   refine BlockP.go ?_
   refine SeqP.go ?_
   refine AW.region ?_
   refine OpsW.q rfl (q_move (v := .int _ _) rfl) ?_
   refine OpsW.q rfl (q_addI rfl rfl (by omega)) ?_
   refine OpsW.q rfl (q_assign (v := .int _ _) rfl) ?_
   refine OpsW.nil ?_
   exact LoopP.go _ (by omega) ⟨n + 1, vo, vv, _, rfl, (by omega), Slots.eq ⟨(by rfl), (by rfl), (by rfl), (by rfl),  trivial⟩, (by have hs9 := hS8; have hs8 := sh_odd hs (by omega); rw [topB_eq] at hs8; rw [shI_succ', ← hs8]; exact hs9)⟩
  try simp only [z1, z2, z3, z4, z5, z6, z7, z8, z9, z10, z11, z12, z13, z14] at h4
  refine AW.skip ?_
  refine BlockP.go ?_
  refine SeqP.go ?_
  refine AW.region ?_
  refine OpsW.q rfl (q_move (v := .int _ _) rfl) ?_
  refine OpsW.q rfl (q_addI rfl rfl (by omega)) ?_
  refine OpsW.q rfl (q_assign (v := .int _ _) rfl) ?_
  refine OpsW.nil ?_
  exact LoopP.go _ (by omega) ⟨n + 1, vo, vv, _, rfl, (by omega), Slots.eq ⟨(by rfl), (by rfl), (by rfl), (by rfl),  trivial⟩, (by have hs9 := hS7; have hs8 := sh_even hs (by omega); rw [topB_eq] at hs8; rw [shI_succ', ← hs8]; exact hs9)⟩
 try simp only [z1, z2, z3, z4, z5, z6, z7, z8, z9, z10, z11, z12, z13, z14] at h3
 refine AW.skip ?_
 refine SeqP.go ?_
 refine AW.seq ?_
 refine AW.block ?_
 refine AW.drawK [] 14 rfl (by kernel_rfl) ?_
 refine SeqK.q rfl (q_move (v := vv) rfl) ?_
 refine SeqK.q rfl (q_move (v := .int _ _) rfl) ?_
 refine SeqK.q rfl (q_move (v := vv) rfl) ?_
 refine SeqK.q rfl (q_move (v := .int _ _) rfl) ?_
 refine SeqK.q rfl (q_indexV1 (hSl2.vec at1) Tryz.underlying35 (by kernel_rfl) rfl rfl (by omega) (by omega)) ?_
 refine SeqK.q rfl (q_loadVB (hSl2.vec at1) (by kernel_rfl) rfl (by omega)) ?_
 refine SeqK.q rfl (q_shrL 1 rfl rfl (by decide) rfl) ?_
 refine SeqK.q rfl (q_move (v := vv) rfl) ?_
 refine SeqK.q rfl (q_move (v := .int _ _) rfl) ?_
 refine SeqK.q rfl (q_subI rfl rfl (by omega)) ?_
 refine SeqK.q rfl (q_indexV1 (hSl2.vec at1) Tryz.underlying35 (by kernel_rfl) rfl rfl (by omega) (by omega)) ?_
 refine SeqK.q rfl (q_loadVB (hSl2.vec at1) (by kernel_rfl) rfl (by omega)) ?_
 refine SeqK.q rfl (q_shlL 7 rfl rfl (by decide) rfl) ?_
 refine SeqK.q rfl (q_or rfl rfl) ?_
 rw [hb_eq]
 refine SeqK.done ?_
 refine OpsW.q rfl (q_indexV1 (hSl2.vec at1) Tryz.underlying35 (by kernel_rfl) rfl rfl (by omega) (by omega)) ?_
 refine OpsW.ms (s_storeVB hSl2 at1 (by kernel_rfl) rfl rfl (by omega)) ?_
 rintro _ H9 ⟨rfl, hS9⟩
 clear hSl2
 refine OpsW.nil ?_
 refine BlockP.go ?_
 refine SeqP.go ?_
 refine AW.region ?_
 refine OpsW.q rfl (q_move (v := .int _ _) rfl) ?_
 refine OpsW.q rfl (q_subI rfl rfl (by omega)) ?_
 refine OpsW.q rfl (q_assign (v := .int _ _) rfl) ?_
 refine OpsW.nil ?_
 exact LoopP.go _ (by omega) ⟨i - 1, _, rfl, (by omega), Slots.eq ⟨(by rfl), (by rfl), (by rfl), (by rfl), (by rfl), (by show Value.int .i64 _ = Value.int .i64 _; exact congrArg _ (by omega)),  trivial⟩, (by have hs9 := hS9; rw [show ((i : Int) - 1).toNat = 15 - 1 - (15 - i) from by omega, Int.toNat_natCast] at hs9; rw [show 15 - (i - 1) = (15 - i) + 1 from by omega, shD_succ', show 15 - (15 - i) = i from by omega, show 14 - (15 - i) = 15 - 1 - (15 - i) from rfl]; exact hs9)⟩
end
end Go.Proofs.YtfpoldogcopmpaaGreatDoor
end
section
namespace Go.Proofs.YtfpoldogcopmpaaGreatDoor
open Go Go.RowKit D
set_option linter.unusedVariables false
set_option linter.unusedSimpArgs false
set_option maxRecDepth 100000
set_option maxHeartbeats 2000000
section
variable {w0 : World} {H : Hp} {H0 : Hp}
theorem hashR_con {key bl : List UInt8} (hk : key.length = 16) (hb : bl.length % 16 = 0) (hm : bl.length ≤ 4294967296) : Con Tryz.prog w0 63 #[S key, S bl] H (fun v H' => v = S (hashB key bl) ∧ H' = H) := by
 have hS0 : Sep H [] H := Sep.refl
 refine Con.intro Tryz.func63 rfl rfl ?_
 refine AW.seq ?_
 refine AW.region ?_
 refine OpsW.q rfl (q_assign (v := S _) rfl) ?_
 refine OpsW.nil ?_
 refine SeqP.go ?_
 refine AW.seq ?_
 refine AW.region ?_
 refine OpsW.m rfl (s_makeSliceB (by_ := 1) hS0 Tryz.underlying35 (by kernel_rfl) (by kernel_rfl) (by kernel_rfl) rfl rfl (by omega) (by omega) (by omega) (by omega) (by unfold maxLen; omega)) ?_
 rintro v8 H1 hS1
 clear hS0
 refine OpsW.q rfl (q_assign (v := v8) rfl) ?_
 refine OpsW.nil ?_
 refine SeqP.go ?_
 refine AW.seq ?_
 refine AW.seq ?_
 refine AW.region ?_
 refine OpsW.q rfl (q_assign (v := .int _ _) rfl) ?_
 refine OpsW.nil ?_
 refine SeqP.go ?_
 refine AW.block ?_
 refine AW.loop (fun m_ e_ H_ => ∃ (i : Nat) (vy : Value) (e0 : Env), m_ = bl.length - 16 * i ∧ (16 * i ≤ bl.length) ∧ e_ = upds e0 [(0, S key), (1, S bl), (5, vy), (6, .int .i64 ((16 * i : Nat) : Int))] ∧ Sep H [.vec vy 5 1 16 (nums .u8 (ofB (byL (hashK (beK key 16) bl i) 16)))] H_) _ ⟨0, v8, _, rfl, (by omega), Slots.eq ⟨(by rfl), (by rfl), (by rfl), (by rfl),  trivial⟩, (by rw [hashK_zero', byL_zero16, zs_eq]; exact hS1)⟩ ?_
 rintro m_ _ Hl0 ⟨i, vy, e0, rfl, hf, rfl, hSl0⟩
 try clear hS1
 have hlt := hashK_lt (beK key 16) bl i
 have ly := byL_length (hashK (beK key 16) bl i) 16
 refine AW.seq ?_
 refine AW.seq ?_
 refine AW.region ?_
 refine OpsW.q rfl (q_move (v := .int _ _) rfl) ?_
 refine OpsW.q rfl (q_move (v := S _) rfl) ?_
 refine OpsW.q rfl (q_lenS Tryz.underlying9 rfl) ?_
 refine OpsW.q rfl (q_lss rfl rfl) ?_
 refine OpsW.nil ?_
 refine SeqP.go ?_
 refine AW.cond2 rfl (fun h0 => ?_) (fun h0 => ?_)
 ·
  try simp only [z1, z2, z3, z4, z5, z6, z7, z8, z9, z10, z11, z12, z13, z14] at h0
  refine AW.exit ?_
  refine SeqP.exit ?_
  refine LoopP.exit ?_
  have hi : i = bl.length / 16 := by omega
  subst hi
  refine BlockP.here ?_
  refine SeqP.go ?_
  refine AW.seq ?_
  refine AW.region ?_
  refine OpsW.q rfl (q_move (v := vy) rfl) ?_
  refine OpsW.q rfl (q_stringB (hSl0.vec at0) Tryz.underlying35 Tryz.underlying5 Tryz.underlying9 rfl) ?_
  refine OpsW.q rfl (q_assign (v := S _) rfl) ?_
  refine OpsW.nil ?_
  refine SeqP.go ?_
  refine AW.ret ?_
  refine RetP.mk1 (H' := H) (v1 := S _) rfl rfl  hSl0.le ?_
  rw [hashB_def]
  exact ⟨rfl, rfl⟩
 try simp only [z1, z2, z3, z4, z5, z6, z7, z8, z9, z10, z11, z12, z13, z14] at h0
 refine AW.skip ?_
 refine SeqP.go ?_
 refine AW.seq ?_
 refine AW.block ?_
 refine AW.seq ?_
 refine AW.seq ?_
 refine AW.region ?_
 refine OpsW.q rfl (q_assign (v := .int _ _) rfl) ?_
 refine OpsW.nil ?_
 refine SeqP.go ?_
 refine AW.block ?_
 refine AW.loop (fun m_ e_ H_ => ∃ (j : Nat) (e0 : Env), m_ = 16 - j ∧ (j ≤ 16) ∧ e_ = upds e0 [(0, S key), (1, S bl), (5, vy), (6, .int .i64 ((16 * i : Nat) : Int)), (7, .int .i64 (j : Int))] ∧ Sep H [.vec vy 5 1 16 (nums .u8 (ofB (withK (byL (hashK (beK key 16) bl i) 16) (bl.drop (16 * i)) j)))] H_) _ ⟨0, _, rfl, (by omega), Slots.eq ⟨(by rfl), (by rfl), (by rfl), (by rfl), (by rfl),  trivial⟩, (by rw [withK_zero]; exact hSl0)⟩ ?_
 rintro m_ _ Hl1 ⟨j, e0, rfl, hf, rfl, hSl1⟩
 try clear hSl0
 have hwl := withK_length (byL (hashK (beK key 16) bl i) 16) (bl.drop (16 * i)) j
 refine AW.seq ?_
 refine AW.seq ?_
 refine AW.region ?_
 refine OpsW.q rfl (q_move (v := .int _ _) rfl) ?_
 refine OpsW.q rfl (q_lss rfl rfl) ?_
 refine OpsW.nil ?_
 refine SeqP.go ?_
 refine AW.cond2 rfl (fun h1 => ?_) (fun h1 => ?_)
 ·
  try simp only [z1, z2, z3, z4, z5, z6, z7, z8, z9, z10, z11, z12, z13, z14] at h1
  refine AW.exit ?_
  refine SeqP.exit ?_
  refine LoopP.exit ?_
  obtain rfl : j = 16 := by omega
  have hxl : (hashK (beK key 16) bl i) ^^^ beK (bl.drop (16 * i)) 16 < 2 ^ 128 := Nat.xor_lt_two_pow hlt (beK_lt128 _)
  have hwx : withK (byL (hashK (beK key 16) bl i) 16) (bl.drop (16 * i)) 16 = byL ((hashK (beK key 16) bl i) ^^^ beK (bl.drop (16 * i)) 16) 16 := by rw [withK_eq ly, ← byL_beK (xorA_length _ _ _ : (xorA (byL (hashK (beK key 16) bl i) 16) (bl.drop (16 * i)) 16).length = 16), beK_xor _ _ 16 16 (Nat.le_refl _), beK_byL (by rw [pow128]; exact hlt)]
  rw [hwx] at hSl1
  have lw := byL_length ((hashK (beK key 16) bl i) ^^^ beK (bl.drop (16 * i)) 16) 16
  refine BlockP.here ?_
  refine SeqP.go ?_
  refine AW.region ?_
  refine OpsW.q rfl (q_move (v := vy) rfl) ?_
  refine OpsW.q rfl (q_move (v := S _) rfl) ?_
  refine OpsW.m rfl (s_bytes hSl1 rfl Tryz.underlying35 Tryz.underlying5 rfl (by unfold maxLen; omega)) ?_
  rintro v34 H2 hS2
  clear hSl1
  refine OpsW.m rfl (o_call rfl Tryz.func93 rfl rfl (timesG_con (hS2.vec at1) (gvec_n hk (hS2.vec at0)) lw hk)) ?_
  rintro v35 H3 hR3
  have hS3 := hS2.join hR3
  simp only [List.cons_append, List.nil_append] at hS3
  clear hR3 hS2
  refine OpsW.q rfl (q_assign (v := v35) rfl) ?_
  refine OpsW.nil ?_
  refine BlockP.go ?_
  refine SeqP.go ?_
  refine AW.region ?_
  refine OpsW.q rfl (q_move (v := .int _ _) rfl) ?_
  refine OpsW.q rfl (q_addI rfl rfl (by omega)) ?_
  refine OpsW.q rfl (q_assign (v := .int _ _) rfl) ?_
  refine OpsW.nil ?_
  replace hS3 := hS3.del del1
  replace hS3 := hS3.del del1
  exact LoopP.go _ (by omega) ⟨i + 1, v35, _, rfl, (by omega), Slots.eq ⟨(by rfl), (by rfl), (by rfl), (by rfl),  trivial⟩, (by have hs9 := hS3; rw [beK_byL (by rw [pow128]; exact hxl), ← hashK_succ'] at hs9; exact hs9)⟩
 try simp only [z1, z2, z3, z4, z5, z6, z7, z8, z9, z10, z11, z12, z13, z14] at h1
 have hget : bl.getD (((16 * i : Nat) : Int) + (j : Int)).toNat 0 = (bl.drop (16 * i)).getD j 0 := by rw [show (((16 * i : Nat) : Int) + (j : Int)).toNat = 16 * i + j from by omega]; simp [List.getD_eq_getElem?_getD, List.getElem?_drop]
 refine AW.skip ?_
 refine SeqP.go ?_
 refine AW.seq ?_
 refine AW.block ?_
 refine AW.drawK [] 12 rfl (by kernel_rfl) ?_
 refine SeqK.q rfl (q_move (v := vy) rfl) ?_
 refine SeqK.q rfl (q_move (v := .int _ _) rfl) ?_
 refine SeqK.q rfl (q_move (v := vy) rfl) ?_
 refine SeqK.q rfl (q_move (v := .int _ _) rfl) ?_
 refine SeqK.q rfl (q_indexV1 (hSl1.vec at0) Tryz.underlying35 (by kernel_rfl) rfl rfl (by omega) (by omega)) ?_
 refine SeqK.q rfl (q_loadVB (hSl1.vec at0) (by kernel_rfl) rfl (by omega)) ?_
 refine SeqK.q rfl (q_move (v := S _) rfl) ?_
 refine SeqK.q rfl (q_move (v := .int _ _) rfl) ?_
 refine SeqK.q rfl (q_move (v := .int _ _) rfl) ?_
 refine SeqK.q rfl (q_addI rfl rfl (by omega)) ?_
 refine SeqK.q rfl (q_indexS Tryz.underlying9 rfl rfl (by omega) (by omega)) ?_
 refine SeqK.q rfl (q_xorB rfl rfl) ?_
 refine SeqK.done ?_
 refine OpsW.q rfl (q_indexV1 (hSl1.vec at0) Tryz.underlying35 (by kernel_rfl) rfl rfl (by omega) (by omega)) ?_
 refine OpsW.ms (s_storeVB hSl1 at0 (by kernel_rfl) rfl rfl (by omega)) ?_
 rintro _ H4 ⟨rfl, hS4⟩
 clear hSl1
 refine OpsW.nil ?_
 refine BlockP.go ?_
 refine SeqP.go ?_
 refine AW.region ?_
 refine OpsW.q rfl (q_move (v := .int _ _) rfl) ?_
 refine OpsW.q rfl (q_addI rfl rfl (by omega)) ?_
 refine OpsW.q rfl (q_assign (v := .int _ _) rfl) ?_
 refine OpsW.nil ?_
 exact LoopP.go _ (by omega) ⟨j + 1, _, rfl, (by omega), Slots.eq ⟨(by rfl), (by rfl), (by rfl), (by rfl), (by rfl),  trivial⟩, (by have hs9 := hS4; rw [hget, Int.toNat_natCast] at hs9; rw [withK_succ]; exact hs9)⟩
theorem counterR_con {nonce : List UInt8} {n : Nat} (hn : nonce.length = 12) : Con Tryz.prog w0 62 #[S nonce, .int .i64 (n : Int)] H (fun v H' => v = S (ctrB nonce n) ∧ H' = H) := by
 have hS0 : Sep H [] H := Sep.refl
 refine Con.intro Tryz.func62 rfl rfl ?_
 refine AW.seq ?_
 refine AW.region ?_
 refine OpsW.q rfl (q_assign (v := S _) rfl) ?_
 refine OpsW.nil ?_
 refine SeqP.go ?_
 refine AW.seq ?_
 refine AW.region ?_
 refine OpsW.q rfl (q_move (v := S _) rfl) ?_
 refine OpsW.q rfl (q_move (v := .int _ _) rfl) ?_
 refine OpsW.q rfl (q_shrL 24 rfl rfl (by decide) rfl) ?_
 refine OpsW.q rfl (q_convInt rfl Tryz.underlying5 rfl) ?_
 rw [ctr_part n 0 (by decide)]
 refine OpsW.q rfl (q_move (v := .int _ _) rfl) ?_
 refine OpsW.q rfl (q_shrL 16 rfl rfl (by decide) rfl) ?_
 refine OpsW.q rfl (q_convInt rfl Tryz.underlying5 rfl) ?_
 rw [ctr_part n 1 (by decide)]
 refine OpsW.q rfl (q_move (v := .int _ _) rfl) ?_
 refine OpsW.q rfl (q_shrL 8 rfl rfl (by decide) rfl) ?_
 refine OpsW.q rfl (q_convInt rfl Tryz.underlying5 rfl) ?_
 rw [ctr_part n 2 (by decide)]
 refine OpsW.q rfl (q_move (v := .int _ _) rfl) ?_
 refine OpsW.q rfl (q_convInt rfl Tryz.underlying5 rfl) ?_
 rw [ctr_last n]
 refine OpsW.m rfl (s_buildSlice (z := .int .u8 0) (vs := nums .u8 (ofB [_, _, _, _])) hS0 Tryz.underlying35 (by kernel_rfl) (by kernel_rfl) rfl (by rfl) (by rfl) (by decide) rfl (nums_one _ _) rfl) ?_
 rintro v17 H1 hS1
 clear hS0
 refine OpsW.q rfl (q_stringB (hS1.vec at0) Tryz.underlying35 Tryz.underlying5 Tryz.underlying9 rfl) ?_
 refine OpsW.q rfl (q_cat rfl rfl (by simp only [nums_length, List.length_set, List.length_replicate, List.length_take, List.length_drop, List.length_append, List.length_cons, List.length_nil, ofB_length, toB_length]; omega)) ?_
 refine OpsW.q rfl (q_assign (v := S _) rfl) ?_
 refine OpsW.nil ?_
 refine SeqP.go ?_
 refine AW.ret ?_
 refine RetP.mk1 (H' := H) (v1 := S _) rfl rfl  hS1.le ?_
 rw [ctrB_ref' nonce n]
 exact ⟨rfl, rfl⟩
theorem filledR_con {s : List UInt8} (hm : s.length ≤ 4294967296) : Con Tryz.prog w0 64 #[S s] H (fun v H' => v = S (flB s) ∧ H' = H) := by
 have hS0 : Sep H [] H := Sep.refl
 refine Con.intro Tryz.func64 rfl rfl ?_
 refine AW.seq ?_
 refine AW.region ?_
 refine OpsW.q rfl (q_assign (v := S _) rfl) ?_
 refine OpsW.nil ?_
 refine SeqP.go ?_
 refine AW.seq ?_
 refine AW.block ?_
 refine AW.loop (fun m_ e_ H_ => ∃ (x : List UInt8) (e0 : Env), m_ = (16 - x.length % 16) % 16 ∧ (flB x = flB s) ∧ e_ = upds e0 [(0, S x)] ∧ Sep H [] H_) _ ⟨s, _, rfl, rfl, Slots.eq ⟨(by rfl),  trivial⟩, hS0⟩ ?_
 rintro m_ _ Hl0 ⟨x, e0, rfl, hx, rfl, hSl0⟩
 try clear hS0
 have l1 := flB_eqn x
 have l2 := flB_eqn s
 rw [hx] at l1
 refine AW.seq ?_
 refine AW.seq ?_
 refine AW.region ?_
 refine OpsW.q rfl (q_move (v := S _) rfl) ?_
 refine OpsW.q rfl (q_lenS Tryz.underlying9 rfl) ?_
 refine OpsW.q rfl (q_remI rfl rfl (by omega)) ?_
 refine OpsW.q rfl (q_neq rfl rfl) ?_
 refine OpsW.nil ?_
 refine SeqP.go ?_
 refine AW.cond2 rfl (fun h0 => ?_) (fun h0 => ?_)
 ·
  try simp only [z1, z2, z3, z4, z5, z6, z7, z8, z9, z10, z11, z12, z13, z14] at h0
  refine AW.exit ?_
  refine SeqP.exit ?_
  refine LoopP.exit ?_
  have hx8 : flB s = x := by rw [← hx]; exact fl_none' (by omega)
  refine BlockP.here ?_
  refine SeqP.go ?_
  refine AW.seq ?_
  refine AW.region ?_
  refine OpsW.q rfl (q_move (v := S _) rfl) ?_
  refine OpsW.q rfl (q_assign (v := S _) rfl) ?_
  refine OpsW.nil ?_
  refine SeqP.go ?_
  refine AW.ret ?_
  refine RetP.mk1 (H' := H) (v1 := S _) rfl rfl  hSl0.le ?_
  exact ⟨by rw [hx8], rfl⟩
 try simp only [z1, z2, z3, z4, z5, z6, z7, z8, z9, z10, z11, z12, z13, z14] at h0
 have hx9 : ¬ x.length % 16 = 0 := by omega
 refine AW.skip ?_
 refine SeqP.go ?_
 refine AW.block ?_
 refine AW.region ?_
 refine OpsW.q rfl (q_move (v := S _) rfl) ?_
 refine OpsW.q rfl (q_cat rfl rfl (by simp only [nums_length, List.length_set, List.length_replicate, List.length_take, List.length_drop, List.length_append, List.length_cons, List.length_nil, ofB_length, toB_length]; omega)) ?_
 refine OpsW.q rfl (q_assign (v := S _) rfl) ?_
 refine OpsW.nil ?_
 refine BlockP.go ?_
 exact LoopP.go _ (by rw [List.length_append, List.length_singleton]; omega) ⟨x ++ [0], _, rfl, (by rw [fl_more' hx9]; exact hx), Slots.eq ⟨(by rfl),  trivial⟩, hSl0⟩
theorem longR_con {n : Nat} (hm : n ≤ 4294967296) : Con Tryz.prog w0 65 #[.int .i64 (n : Int)] H (fun v H' => v = S (longB n) ∧ H' = H) := by
 have hS0 : Sep H [] H := Sep.refl
 refine Con.intro Tryz.func65 rfl rfl ?_
 refine AW.seq ?_
 refine AW.region ?_
 refine OpsW.q rfl (q_assign (v := S _) rfl) ?_
 refine OpsW.nil ?_
 refine SeqP.go ?_
 refine AW.seq ?_
 refine AW.region ?_
 refine OpsW.q rfl (q_assign (v := .slice _ _ _) rfl) ?_
 refine OpsW.nil ?_
 refine SeqP.go ?_
 refine AW.seq ?_
 refine AW.seq ?_
 refine AW.region ?_
 refine OpsW.q rfl (q_assign (v := .int _ _) rfl) ?_
 refine OpsW.nil ?_
 refine SeqP.go ?_
 refine AW.block ?_
 replace hS0 := hS0.nil (el := 5) (sz := 1)
 refine AW.loop (fun m_ e_ H_ => ∃ (j : Nat) (vo : Value) (e0 : Env), m_ = 8 - j ∧ (j ≤ 8) ∧ e_ = upds e0 [(0, .int .i64 (n : Int)), (3, vo), (4, .int .i64 ((7 : Int) - (j : Int)))] ∧ Sep H [.vec vo 5 1 j (nums .u8 (ofB ((longB n).take j)))] H_) _ ⟨0, nilV, _, rfl, (by omega), Slots.eq ⟨(by rfl), (by rfl), (by rfl),  trivial⟩, (by rw [List.take_zero]; exact hS0)⟩ ?_
 rintro m_ _ Hl0 ⟨j, vo, e0, rfl, hf, rfl, hSl0⟩
 try clear hS0
 have hl := longB_length n
 refine AW.seq ?_
 refine AW.seq ?_
 refine AW.region ?_
 refine OpsW.q rfl (q_move (v := .int _ _) rfl) ?_
 refine OpsW.q rfl (q_geq rfl rfl) ?_
 refine OpsW.nil ?_
 refine SeqP.go ?_
 refine AW.cond2 rfl (fun h0 => ?_) (fun h0 => ?_)
 ·
  try simp only [z1, z2, z3, z4, z5, z6, z7, z8, z9, z10, z11, z12, z13, z14] at h0
  refine AW.exit ?_
  refine SeqP.exit ?_
  refine LoopP.exit ?_
  obtain rfl : j = 8 := by omega
  refine BlockP.here ?_
  refine SeqP.go ?_
  refine AW.seq ?_
  refine AW.region ?_
  refine OpsW.q rfl (q_move (v := vo) rfl) ?_
  refine OpsW.q rfl (q_stringB (hSl0.vec at0) Tryz.underlying35 Tryz.underlying5 Tryz.underlying9 rfl) ?_
  refine OpsW.q rfl (q_assign (v := S _) rfl) ?_
  refine OpsW.nil ?_
  refine SeqP.go ?_
  refine AW.ret ?_
  refine RetP.mk1 (H' := H) (v1 := S _) rfl rfl  hSl0.le ?_
  exact ⟨by rw [List.take_of_length_le (by rw [longB_length]; exact Nat.le_refl _)], rfl⟩
 try simp only [z1, z2, z3, z4, z5, z6, z7, z8, z9, z10, z11, z12, z13, z14] at h0
 refine AW.skip ?_
 refine SeqP.go ?_
 refine AW.seq ?_
 refine AW.block ?_
 refine AW.region ?_
 refine OpsW.q rfl (q_move (v := vo) rfl) ?_
 refine OpsW.q rfl (q_move (v := .int _ _) rfl) ?_
 refine OpsW.q rfl (q_mulI rfl rfl (by omega)) ?_
 refine OpsW.q rfl (q_move (v := .int _ _) rfl) ?_
 refine OpsW.q rfl (q_mulI rfl rfl (by omega)) ?_
 refine OpsW.q rfl (q_shr rfl rfl (by omega)) ?_
 refine OpsW.q rfl (q_convInt rfl Tryz.underlying5 rfl) ?_
 rw [long_byte n (by omega)]
 refine OpsW.m rfl (s_buildSlice (z := .int .u8 0) (vs := nums .u8 (ofB [_])) hSl0 Tryz.underlying35 (by kernel_rfl) (by kernel_rfl) rfl (by rfl) (by rfl) (by decide) rfl (nums_one _ _) rfl) ?_
 rintro v16 H1 hS1
 clear hSl0
 refine OpsW.m rfl (s_append (sz := 1) (by_ := 1) (z := .int .u8 0) hS1 at1 Tryz.underlying35 (by kernel_rfl) (by kernel_rfl) (by kernel_rfl) rfl (by kernel_rfl) rfl rfl (src_vec (hS1.vec at0) (nums_one _ _)) (by unfold maxLen; omega) (by omega)) ?_
 rintro v17 H2 hS2
 clear hS1
 rw [← nums_append, ← ofB_app] at hS2
 replace hS2 := hS2.del del0
 refine OpsW.q rfl (q_assign (v := v17) rfl) ?_
 refine OpsW.nil ?_
 refine BlockP.go ?_
 refine SeqP.go ?_
 refine AW.region ?_
 refine OpsW.q rfl (q_move (v := .int _ _) rfl) ?_
 refine OpsW.q rfl (q_subI rfl rfl (by omega)) ?_
 refine OpsW.q rfl (q_assign (v := .int _ _) rfl) ?_
 refine OpsW.nil ?_
 exact LoopP.go _ (by omega) ⟨j + 1, v17, _, rfl, (by omega), Slots.eq ⟨(by rfl), (by rfl), (by show Value.int .i64 _ = Value.int .i64 _; exact congrArg _ (by omega)),  trivial⟩, (by rw [List.take_succ_eq_append_getElem (by omega)]; have hs9 := hS2; rw [List.getD_eq_getElem?_getD, List.getElem?_eq_getElem (by omega)] at hs9; exact hs9)⟩
end
end Go.Proofs.YtfpoldogcopmpaaGreatDoor
end
section
namespace Go.Proofs.YtfpoldogcopmpaaGreatDoor
open Go Go.RowKit D
set_option linter.unusedVariables false
set_option linter.unusedSimpArgs false
set_option maxRecDepth 100000
set_option maxHeartbeats 2000000
section
variable {w0 : World} {H : Hp} {H0 : Hp}
theorem ones_two {a b : Value} (h1 : a.oneCell' = true) (h2 : b.oneCell' = true) : ∀ v ∈ [a, b], v.oneCell' = true := by
 intro v hv
 simp only [List.mem_cons, List.not_mem_nil, or_false] at hv
 rcases hv with rfl | rfl <;> assumption
theorem streamR_con {vk vs : Value} {key nonce d : List UInt8} (hVk : Vec H 9 1 vk 11 (strs (keysS (keysL key) 11))) (hVs : Vec H 5 1 vs 256 (nums .u8 (ofB sbox))) (hk : key.length = 16) (hn : nonce.length = 12) (hm : d.length ≤ 1048576) : Con Tryz.prog w0 36 #[.agg #[vk, vs], S nonce, S d] H (fun v H' => v = S (strmB key nonce d) ∧ H' = H) := by
 have hS0 : Sep H [] H := Sep.refl
 refine Con.intro Tryz.func36 rfl rfl ?_
 refine AW.seq ?_
 refine AW.region ?_
 refine OpsW.m rfl (s_box (v := .agg _) hS0 rfl rfl) ?_
 rintro _ H1 ⟨b3, rfl, hS1⟩
 clear hS0
 refine OpsW.q rfl (q_assign (v := S _) rfl) ?_
 refine OpsW.nil ?_
 refine SeqP.go ?_
 refine AW.seq ?_
 refine AW.region ?_
 refine OpsW.q rfl (q_assign (v := .slice _ _ _) rfl) ?_
 refine OpsW.nil ?_
 refine SeqP.go ?_
 refine AW.seq ?_
 refine AW.region ?_
 refine OpsW.q rfl (q_assign (v := S _) rfl) ?_
 refine OpsW.nil ?_
 refine SeqP.go ?_
 refine AW.seq ?_
 refine AW.seq ?_
 refine AW.region ?_
 refine OpsW.q rfl (q_assign (v := .int _ _) rfl) ?_
 refine OpsW.nil ?_
 refine SeqP.go ?_
 refine AW.block ?_
 replace hS1 := hS1.nil (el := 5) (sz := 1)
 refine AW.loop (fun m_ e_ H_ => ∃ (i : Nat) (vo : Value) (e0 : Env), m_ = d.length - i ∧ (i ≤ d.length) ∧ e_ = upds e0 [(1, S nonce), (2, S d), (3, .pointer (some ⟨b3, 0, none⟩)), (7, vo), (9, .int .i64 (i : Int)), (8, S (curS key nonce i))] ∧ Sep H [.vec vo 5 1 i (nums .u8 (ofB ((strmB key nonce d).take i))), .blk b3 ⟨[vk, vs], 2, 70⟩] H_) _ ⟨0, nilV, _, rfl, (by omega), Slots.eq ⟨(by rfl), (by rfl), (by rfl), (by rfl), (by rfl), (by rw [curS_zero']; rfl),  trivial⟩, (by rw [List.take_zero]; exact hS1)⟩ ?_
 rintro m_ _ Hl0 ⟨i, vo, e0, rfl, hf, rfl, hSl0⟩
 try clear hS1
 have hbk := blkA_length key (ctrB nonce (2 + i / 16))
 refine AW.seq ?_
 refine AW.seq ?_
 refine AW.region ?_
 refine OpsW.q rfl (q_move (v := .int _ _) rfl) ?_
 refine OpsW.q rfl (q_move (v := S _) rfl) ?_
 refine OpsW.q rfl (q_lenS Tryz.underlying9 rfl) ?_
 refine OpsW.q rfl (q_lss rfl rfl) ?_
 refine OpsW.nil ?_
 refine SeqP.go ?_
 refine AW.cond2 rfl (fun h0 => ?_) (fun h0 => ?_)
 ·
  try simp only [z1, z2, z3, z4, z5, z6, z7, z8, z9, z10, z11, z12, z13, z14] at h0
  refine AW.exit ?_
  refine SeqP.exit ?_
  refine LoopP.exit ?_
  obtain rfl : i = d.length := by omega
  refine BlockP.here ?_
  refine SeqP.go ?_
  refine AW.seq ?_
  refine AW.region ?_
  refine OpsW.q rfl (q_move (v := vo) rfl) ?_
  refine OpsW.q rfl (q_stringB (hSl0.vec at0) Tryz.underlying35 Tryz.underlying5 Tryz.underlying9 rfl) ?_
  refine OpsW.q rfl (q_assign (v := S _) rfl) ?_
  refine OpsW.nil ?_
  refine SeqP.go ?_
  refine AW.ret ?_
  refine RetP.mk1 (H' := H) (v1 := S _) rfl rfl  hSl0.le ?_
  exact ⟨by rw [List.take_of_length_le (by rw [strmB_length']; exact Nat.le_refl _)], rfl⟩
 try simp only [z1, z2, z3, z4, z5, z6, z7, z8, z9, z10, z11, z12, z13, z14] at h0
 refine AW.skip ?_
 refine SeqP.go ?_
 refine AW.seq ?_
 refine AW.block ?_
 refine AW.seq ?_
 refine AW.seq ?_
 refine AW.region ?_
 refine OpsW.q rfl (q_move (v := .int _ _) rfl) ?_
 refine OpsW.q rfl (q_remI rfl rfl (by omega)) ?_
 refine OpsW.q rfl (q_eql rfl rfl) ?_
 refine OpsW.nil ?_
 refine SeqP.go ?_
 refine AW.cond rfl (fun h1 => ?_) (fun h1 => ?_)
 ·
  try simp only [z1, z2, z3, z4, z5, z6, z7, z8, z9, z10, z11, z12, z13, z14] at h1
  refine AW.drawK [] 6 rfl (by kernel_rfl) ?_
  refine SeqK.q rfl (q_loadA0 (n := 2) (by kernel_rfl) rfl (hSl0.blk at1) (by simp; done)) ?_
  refine SeqK.q rfl (q_move (v := S _) rfl) ?_
  refine SeqK.q rfl (q_move (v := .int _ _) rfl) ?_
  refine SeqK.q rfl (q_quoI rfl rfl (by omega)) ?_
  refine SeqK.q rfl (q_addI rfl rfl (by omega)) ?_
  rw [show (2 : Int) + (i : Int) / 16 = ((2 + i / 16 : Nat) : Int) from by omega]
  refine SeqK.q rfl (o_call rfl Tryz.func62 rfl rfl (counterR_con hn)) ?_
  refine SeqK.done ?_
  refine OpsW.q rfl (o_call rfl Tryz.func61 rfl rfl (UnderR_con (hVk.le hSl0.le) (hVs.le hSl0.le) (keysL_length hk) (by rw [ctrB_length' hn]))) ?_
  rw [blkA_eq]
  refine OpsW.q rfl (q_assign (v := S _) rfl) ?_
  refine OpsW.nil ?_
  refine SeqP.go ?_
  refine AW.drawD 9 0 rfl (by kernel_rfl) (by kernel_rfl) ?_
  refine SeqD.a rfl (fun _ => q_move (v := vo) rfl) ?_
  refine SeqD.a rfl (fun _ => q_move (v := S _) rfl) ?_
  refine SeqD.a rfl (fun _ => q_move (v := .int _ _) rfl) ?_
  refine SeqD.a rfl (fun _ => q_indexS Tryz.underlying9 rfl rfl (by omega) (by omega)) ?_
  refine SeqD.a rfl (fun _ => q_move (v := S _) rfl) ?_
  refine SeqD.a rfl (fun _ => q_move (v := .int _ _) rfl) ?_
  refine SeqD.a rfl (fun _ => q_remI rfl rfl (by omega)) ?_
  refine SeqD.a rfl (fun _ => q_indexS Tryz.underlying9 rfl rfl (by omega) (by omega)) ?_
  refine SeqD.a rfl (fun _ => q_xorB rfl rfl) ?_
  refine SeqD.x rfl (s_buildSlice (z := .int .u8 0) (vs := nums .u8 (ofB [_])) hSl0 Tryz.underlying35 (by kernel_rfl) (by kernel_rfl) rfl (by rfl) (by rfl) (by decide) rfl (nums_one _ _) rfl) ?_
  rintro v35 H2 hS2
  clear hSl0
  refine ⟨trivial, ?_⟩
  refine SeqR2.done ?_
  refine OpsW.m rfl (s_append (sz := 1) (by_ := 1) (z := .int .u8 0) hS2 at1 Tryz.underlying35 (by kernel_rfl) (by kernel_rfl) (by kernel_rfl) rfl (by kernel_rfl) rfl rfl (src_vec (hS2.vec at0) (nums_one _ _)) (by unfold maxLen; omega) (by omega)) ?_
  rintro v36 H3 hS3
  clear hS2
  rw [← nums_append, ← ofB_app] at hS3
  replace hS3 := hS3.del del0
  refine OpsW.q rfl (q_assign (v := v36) rfl) ?_
  refine OpsW.nil ?_
  refine BlockP.go ?_
  refine SeqP.go ?_
  refine AW.region ?_
  refine OpsW.q rfl (q_move (v := .int _ _) rfl) ?_
  refine OpsW.q rfl (q_addI rfl rfl (by omega)) ?_
  refine OpsW.q rfl (q_assign (v := .int _ _) rfl) ?_
  refine OpsW.nil ?_
  exact LoopP.go _ (by omega) ⟨i + 1, v36, _, rfl, (by omega), Slots.eq ⟨(by rfl), (by rfl), (by rfl), (by rfl), (by rfl), (by rw [curS_succ']; rfl),  trivial⟩, (by rw [strm_next key nonce d (by omega)]; exact hS3)⟩
 try simp only [z1, z2, z3, z4, z5, z6, z7, z8, z9, z10, z11, z12, z13, z14] at h1
 rw [curS_same' key nonce (i := i) (by omega)]
 refine AW.skip ?_
 refine SeqP.go ?_
 refine AW.drawD 9 0 rfl (by kernel_rfl) (by kernel_rfl) ?_
 refine SeqD.a rfl (fun _ => q_move (v := vo) rfl) ?_
 refine SeqD.a rfl (fun _ => q_move (v := S _) rfl) ?_
 refine SeqD.a rfl (fun _ => q_move (v := .int _ _) rfl) ?_
 refine SeqD.a rfl (fun _ => q_indexS Tryz.underlying9 rfl rfl (by omega) (by omega)) ?_
 refine SeqD.a rfl (fun _ => q_move (v := S _) rfl) ?_
 refine SeqD.a rfl (fun _ => q_move (v := .int _ _) rfl) ?_
 refine SeqD.a rfl (fun _ => q_remI rfl rfl (by omega)) ?_
 refine SeqD.a rfl (fun _ => q_indexS Tryz.underlying9 rfl rfl (by omega) (by omega)) ?_
 refine SeqD.a rfl (fun _ => q_xorB rfl rfl) ?_
 refine SeqD.x rfl (s_buildSlice (z := .int .u8 0) (vs := nums .u8 (ofB [_])) hSl0 Tryz.underlying35 (by kernel_rfl) (by kernel_rfl) rfl (by rfl) (by rfl) (by decide) rfl (nums_one _ _) rfl) ?_
 rintro v35 H4 hS4
 clear hSl0
 refine ⟨trivial, ?_⟩
 refine SeqR2.done ?_
 refine OpsW.m rfl (s_append (sz := 1) (by_ := 1) (z := .int .u8 0) hS4 at1 Tryz.underlying35 (by kernel_rfl) (by kernel_rfl) (by kernel_rfl) rfl (by kernel_rfl) rfl rfl (src_vec (hS4.vec at0) (nums_one _ _)) (by unfold maxLen; omega) (by omega)) ?_
 rintro v36 H5 hS5
 clear hS4
 rw [← nums_append, ← ofB_app] at hS5
 replace hS5 := hS5.del del0
 refine OpsW.q rfl (q_assign (v := v36) rfl) ?_
 refine OpsW.nil ?_
 refine BlockP.go ?_
 refine SeqP.go ?_
 refine AW.region ?_
 refine OpsW.q rfl (q_move (v := .int _ _) rfl) ?_
 refine OpsW.q rfl (q_addI rfl rfl (by omega)) ?_
 refine OpsW.q rfl (q_assign (v := .int _ _) rfl) ?_
 refine OpsW.nil ?_
 exact LoopP.go _ (by omega) ⟨i + 1, v36, _, rfl, (by omega), Slots.eq ⟨(by rfl), (by rfl), (by rfl), (by rfl), (by rfl), (by rw [curS_succ']; rfl),  trivial⟩, (by rw [strm_next key nonce d (by omega)]; exact hS5)⟩
theorem tagR_con {vk vs : Value} {key nonce b s : List UInt8} (hVk : Vec H 9 1 vk 11 (strs (keysS (keysL key) 11))) (hVs : Vec H 5 1 vs 256 (nums .u8 (ofB sbox))) (hk : key.length = 16) (hn : nonce.length = 12) (hb : b.length ≤ 1048576) (hs : s.length ≤ 1048576) : Con Tryz.prog w0 37 #[.agg #[vk, vs], S nonce, S b, S s] H (fun v H' => v = S (gtag key nonce b s) ∧ H' = H) := by
 have hS0 : Sep H [] H := Sep.refl
 have lb := flB_length' b
 have ls := flB_length' s
 have mb := flB_mod' b
 have ms := flB_mod' s
 have l1 := longB_length b.length
 have l2 := longB_length s.length
 have hz : List.replicate (Int.toNat 16) (0 : UInt8) = zs 16 := (zs_eq 16).symm
 have lz := zs_length16
 have l4 : (flB b ++ flB s).length = (flB b).length + (flB s).length := List.length_append
 have l5 : (flB b ++ flB s ++ longB b.length).length = (flB b).length + (flB s).length + 8 := by rw [List.length_append, l4, l1]
 have l6 : (flB b ++ flB s ++ longB b.length ++ longB s.length).length = (flB b).length + (flB s).length + 16 := by rw [List.length_append, l5, l2]
 have l7 : (hashB (blkA key (zs 16)) (flB b ++ flB s ++ longB b.length ++ longB s.length)).length = 16 := hashB_length' _ _
 have l8 := blkA_length key (ctrB nonce 1)
 refine Con.intro Tryz.func37 rfl rfl ?_
 refine AW.seq ?_
 refine AW.region ?_
 refine OpsW.m rfl (s_box (v := .agg _) hS0 rfl rfl) ?_
 rintro _ H1 ⟨b4, rfl, hS1⟩
 clear hS0
 refine OpsW.q rfl (q_assign (v := S _) rfl) ?_
 refine OpsW.nil ?_
 refine SeqP.go ?_
 refine AW.seq ?_
 refine AW.drawD 1 1 rfl (by kernel_rfl) (by kernel_rfl) ?_
 refine SeqD.q rfl (q_loadA0 (n := 2) (by kernel_rfl) rfl (hS1.blk at0) (by rfl)) ?_
 refine SeqD.x rfl (s_makeSliceB (by_ := 1) hS1 Tryz.underlying35 (by kernel_rfl) (by kernel_rfl) (by kernel_rfl) rfl rfl (by omega) (by omega) (by omega) (by omega) (by unfold maxLen; omega)) ?_
 rintro v15 H2 hS2
 clear hS1
 refine ⟨⟨trivial, q_loadA0 (n := 2) (by kernel_rfl) rfl (hS2.blk at1) (by rfl)⟩, ?_⟩
 refine SeqR2.q rfl (q_stringB (hS2.vec at0) Tryz.underlying35 Tryz.underlying5 Tryz.underlying9 rfl) ?_
 refine SeqR2.done ?_
 refine OpsW.q rfl (o_call rfl Tryz.func61 rfl rfl (UnderR_con (hVk.le hS2.le) (hVs.le hS2.le) (keysL_length hk) (by rw [hz]; exact lz))) ?_
 rw [hz, blkA_eq]
 refine OpsW.q rfl (q_assign (v := S _) rfl) ?_
 refine OpsW.nil ?_
 refine SeqP.go ?_
 refine AW.seq ?_
 refine AW.region ?_
 refine OpsW.q rfl (q_move (v := S _) rfl) ?_
 refine OpsW.q rfl (q_move (v := S _) rfl) ?_
 refine OpsW.q rfl (o_call rfl Tryz.func64 rfl rfl (filledR_con (by omega))) ?_
 refine OpsW.q rfl (q_move (v := S _) rfl) ?_
 refine OpsW.q rfl (o_call rfl Tryz.func64 rfl rfl (filledR_con (by omega))) ?_
 refine OpsW.q rfl (q_cat rfl rfl (by omega)) ?_
 refine OpsW.q rfl (q_move (v := S _) rfl) ?_
 refine OpsW.q rfl (q_lenS Tryz.underlying9 rfl) ?_
 refine OpsW.q rfl (o_call rfl Tryz.func65 rfl rfl (longR_con (by omega))) ?_
 refine OpsW.q rfl (q_cat rfl rfl (by omega)) ?_
 refine OpsW.q rfl (q_move (v := S _) rfl) ?_
 refine OpsW.q rfl (q_lenS Tryz.underlying9 rfl) ?_
 refine OpsW.q rfl (o_call rfl Tryz.func65 rfl rfl (longR_con (by omega))) ?_
 refine OpsW.q rfl (q_cat rfl rfl (by omega)) ?_
 refine OpsW.q rfl (o_call rfl Tryz.func63 rfl rfl (hashR_con (blkA_length _ _) (by omega) (by omega))) ?_
 refine OpsW.q rfl (q_assign (v := S _) rfl) ?_
 refine OpsW.nil ?_
 refine SeqP.go ?_
 refine AW.seq ?_
 refine AW.drawK [] 3 rfl (by kernel_rfl) ?_
 refine SeqK.q rfl (q_loadA0 (n := 2) (by kernel_rfl) rfl (hS2.blk at1) (by rfl)) ?_
 refine SeqK.q rfl (q_move (v := S _) rfl) ?_
 refine SeqK.q rfl (o_call rfl Tryz.func62 rfl rfl (counterR_con (n := 1) hn)) ?_
 refine SeqK.done ?_
 refine OpsW.q rfl (o_call rfl Tryz.func61 rfl rfl (UnderR_con (hVk.le hS2.le) (hVs.le hS2.le) (keysL_length hk) (by rw [ctrB_length' hn]))) ?_
 rw [blkA_eq]
 refine OpsW.q rfl (q_assign (v := S _) rfl) ?_
 refine OpsW.nil ?_
 refine SeqP.go ?_
 refine AW.seq ?_
 refine AW.region ?_
 refine OpsW.q rfl (q_assign (v := .slice _ _ _) rfl) ?_
 refine OpsW.nil ?_
 refine SeqP.go ?_
 refine AW.seq ?_
 refine AW.seq ?_
 refine AW.region ?_
 refine OpsW.q rfl (q_assign (v := .int _ _) rfl) ?_
 refine OpsW.nil ?_
 refine SeqP.go ?_
 refine AW.block ?_
 replace hS2 := hS2.nil (el := 5) (sz := 1)
 replace hS2 := hS2.del del1
 replace hS2 := hS2.del del1
 refine AW.loop (fun m_ e_ H_ => ∃ (i : Nat) (vo : Value) (e0 : Env), m_ = 16 - i ∧ (i ≤ 16) ∧ e_ = upds e0 [(10, S (hashB (blkA key (zs 16)) (flB b ++ flB s ++ longB b.length ++ longB s.length))), (11, S (blkA key (ctrB nonce 1))), (12, vo), (13, .int .i64 (i : Int))] ∧ Sep H [.vec vo 5 1 i (nums .u8 (ofB (xorA (hashB (blkA key (zs 16)) (flB b ++ flB s ++ longB b.length ++ longB s.length)) (blkA key (ctrB nonce 1)) i)))] H_) _ ⟨0, nilV, _, rfl, (by omega), Slots.eq ⟨(by rfl), (by rfl), (by rfl), (by rfl),  trivial⟩, (by rw [xorA_zero]; exact hS2)⟩ ?_
 rintro m_ _ Hl0 ⟨i, vo, e0, rfl, hf, rfl, hSl0⟩
 try clear hS2
 refine AW.seq ?_
 refine AW.seq ?_
 refine AW.region ?_
 refine OpsW.q rfl (q_move (v := .int _ _) rfl) ?_
 refine OpsW.q rfl (q_lss rfl rfl) ?_
 refine OpsW.nil ?_
 refine SeqP.go ?_
 refine AW.cond2 rfl (fun h0 => ?_) (fun h0 => ?_)
 ·
  try simp only [z1, z2, z3, z4, z5, z6, z7, z8, z9, z10, z11, z12, z13, z14] at h0
  refine AW.exit ?_
  refine SeqP.exit ?_
  refine LoopP.exit ?_
  obtain rfl : i = 16 := by omega
  refine BlockP.here ?_
  refine SeqP.go ?_
  refine AW.seq ?_
  refine AW.region ?_
  refine OpsW.q rfl (q_move (v := vo) rfl) ?_
  refine OpsW.q rfl (q_stringB (hSl0.vec at0) Tryz.underlying35 Tryz.underlying5 Tryz.underlying9 rfl) ?_
  refine OpsW.q rfl (q_assign (v := S _) rfl) ?_
  refine OpsW.nil ?_
  refine SeqP.go ?_
  refine AW.ret ?_
  refine RetP.mk1 (H' := H) (v1 := S _) rfl rfl  hSl0.le ?_
  refine ⟨?_, rfl⟩
  rw [gtag_eq, tagB_eq, ← List.append_assoc (flB b ++ flB s)]
 try simp only [z1, z2, z3, z4, z5, z6, z7, z8, z9, z10, z11, z12, z13, z14] at h0
 refine AW.skip ?_
 refine SeqP.go ?_
 refine AW.seq ?_
 refine AW.block ?_
 refine AW.drawD 8 0 rfl (by kernel_rfl) (by kernel_rfl) ?_
 refine SeqD.a rfl (fun _ => q_move (v := vo) rfl) ?_
 refine SeqD.a rfl (fun _ => q_move (v := S _) rfl) ?_
 refine SeqD.a rfl (fun _ => q_move (v := .int _ _) rfl) ?_
 refine SeqD.a rfl (fun _ => q_indexS Tryz.underlying9 rfl rfl (by omega) (by omega)) ?_
 refine SeqD.a rfl (fun _ => q_move (v := S _) rfl) ?_
 refine SeqD.a rfl (fun _ => q_move (v := .int _ _) rfl) ?_
 refine SeqD.a rfl (fun _ => q_indexS Tryz.underlying9 rfl rfl (by omega) (by omega)) ?_
 refine SeqD.a rfl (fun _ => q_xorB rfl rfl) ?_
 refine SeqD.x rfl (s_buildSlice (z := .int .u8 0) (vs := nums .u8 (ofB [_])) hSl0 Tryz.underlying35 (by kernel_rfl) (by kernel_rfl) rfl (by rfl) (by rfl) (by decide) rfl (nums_one _ _) rfl) ?_
 rintro v49 H3 hS3
 clear hSl0
 refine ⟨trivial, ?_⟩
 refine SeqR2.done ?_
 refine OpsW.m rfl (s_append (sz := 1) (by_ := 1) (z := .int .u8 0) hS3 at1 Tryz.underlying35 (by kernel_rfl) (by kernel_rfl) (by kernel_rfl) rfl (by kernel_rfl) rfl rfl (src_vec (hS3.vec at0) (nums_one _ _)) (by unfold maxLen; omega) (by omega)) ?_
 rintro v50 H4 hS4
 clear hS3
 rw [← nums_append, ← ofB_app] at hS4
 replace hS4 := hS4.del del0
 refine OpsW.q rfl (q_assign (v := v50) rfl) ?_
 refine OpsW.nil ?_
 refine BlockP.go ?_
 refine SeqP.go ?_
 refine AW.region ?_
 refine OpsW.q rfl (q_move (v := .int _ _) rfl) ?_
 refine OpsW.q rfl (q_addI rfl rfl (by omega)) ?_
 refine OpsW.q rfl (q_assign (v := .int _ _) rfl) ?_
 refine OpsW.nil ?_
 exact LoopP.go _ (by omega) ⟨i + 1, v50, _, rfl, (by omega), Slots.eq ⟨(by rfl), (by rfl), (by rfl), (by rfl),  trivial⟩, (by rw [xorA_succ]; exact hS4)⟩
theorem SealR_con {key nonce b d : List UInt8} (hb : b.length ≤ 4294967296) (hd : d.length ≤ 4294967296) : Con Tryz.prog w0 20 #[S key, S nonce, S b, S d] H (fun v H' => v = .tuple #[S (sealP key nonce b d).1, .int .i64 (sealP key nonce b d).2] ∧ H' = H) := by
 have hS0 : Sep H [] H := Sep.refl
 refine Con.intro Tryz.func20 rfl rfl ?_
 refine AW.seq ?_
 refine AW.region ?_
 refine OpsW.q rfl (q_assign (v := S _) rfl) ?_
 refine OpsW.q rfl (q_assign (v := .int _ _) rfl) ?_
 refine OpsW.nil ?_
 refine SeqP.go ?_
 refine AW.seq ?_
 refine AW.seq ?_
 refine AW.region ?_
 refine OpsW.q rfl (q_move (v := S _) rfl) ?_
 refine OpsW.q rfl (q_lenS Tryz.underlying9 rfl) ?_
 refine OpsW.q rfl (q_neq rfl rfl) ?_
 refine OpsW.qb rfl (q_move (v := .bool _) rfl) ?_
 intro b15 eb15
 refine OpsW.g rfl rfl rfl (fun hB => by simp only [Bool.and_eq_true, beq_iff_eq] at hB; obtain rfl := hB; exact (q_move (v := S _) rfl)) ?_
 refine OpsW.g rfl rfl rfl (fun hB => by simp only [Bool.and_eq_true, beq_iff_eq] at hB; obtain rfl := hB; exact (q_lenS Tryz.underlying9 rfl)) ?_
 refine OpsW.g rfl rfl rfl (fun hB => by simp only [Bool.and_eq_true, beq_iff_eq] at hB; obtain rfl := hB; exact (q_neq rfl rfl)) ?_
 refine OpsW.q rfl (q_or2 rfl rfl rfl) ?_
 refine OpsW.nil ?_
 refine SeqP.go ?_
 refine AW.cond rfl (fun h0 => ?_) (fun h0 => ?_)
 ·
  try simp only [eb15, z1, z2, z3, z4, z5, z6, z7, z8, z9, z10, z11, z12, z13, z14] at h0
  rw [sealP_key (by omega)]
  refine AW.seq ?_
  refine AW.region ?_
  refine OpsW.q rfl (q_assign (v := S _) rfl) ?_
  refine OpsW.q rfl (q_assign (v := .int _ _) rfl) ?_
  refine OpsW.nil ?_
  refine SeqP.go ?_
  refine AW.ret ?_
  refine SeqP.ret ?_
  refine RetP.mk2 (H' := H) (v1 := S _) (v2 := .int _ _) rfl rfl rfl  hS0.le ?_
  exact ⟨rfl, rfl⟩
 try simp only [eb15, z1, z2, z3, z4, z5, z6, z7, z8, z9, z10, z11, z12, z13, z14] at h0
 have hkn : key.length = 16 ∧ nonce.length = 12 := by omega
 refine AW.skip ?_
 refine SeqP.go ?_
 refine AW.seq ?_
 refine AW.seq ?_
 refine AW.region ?_
 refine OpsW.q rfl (q_move (v := S _) rfl) ?_
 refine OpsW.q rfl (q_lenS Tryz.underlying9 rfl) ?_
 refine OpsW.q rfl (q_gtr rfl rfl) ?_
 refine OpsW.qb rfl (q_move (v := .bool _) rfl) ?_
 intro b23 eb23
 refine OpsW.g rfl rfl rfl (fun hB => by simp only [Bool.and_eq_true, beq_iff_eq] at hB; obtain rfl := hB; exact (q_move (v := S _) rfl)) ?_
 refine OpsW.g rfl rfl rfl (fun hB => by simp only [Bool.and_eq_true, beq_iff_eq] at hB; obtain rfl := hB; exact (q_lenS Tryz.underlying9 rfl)) ?_
 refine OpsW.g rfl rfl rfl (fun hB => by simp only [Bool.and_eq_true, beq_iff_eq] at hB; obtain rfl := hB; exact (q_gtr rfl rfl)) ?_
 refine OpsW.q rfl (q_or2 rfl rfl rfl) ?_
 refine OpsW.nil ?_
 refine SeqP.go ?_
 refine AW.cond rfl (fun h1 => ?_) (fun h1 => ?_)
 ·
  try simp only [eb15, eb23, z1, z2, z3, z4, z5, z6, z7, z8, z9, z10, z11, z12, z13, z14] at h1
  rw [sealP_big hkn (by omega)]
  refine AW.seq ?_
  refine AW.region ?_
  refine OpsW.q rfl (q_assign (v := S _) rfl) ?_
  refine OpsW.q rfl (q_assign (v := .int _ _) rfl) ?_
  refine OpsW.nil ?_
  refine SeqP.go ?_
  refine AW.ret ?_
  refine SeqP.ret ?_
  refine RetP.mk2 (H' := H) (v1 := S _) (v2 := .int _ _) rfl rfl rfl  hS0.le ?_
  exact ⟨rfl, rfl⟩
 try simp only [eb15, eb23, z1, z2, z3, z4, z5, z6, z7, z8, z9, z10, z11, z12, z13, z14] at h1
 have hbd : ¬ (1048576 < b.length ∨ 1048576 < d.length) := by omega
 have hsl := strmB_length' key nonce d
 have hgl := gtag_length' key nonce b (strmB key nonce d)
 refine AW.skip ?_
 refine SeqP.go ?_
 refine AW.seq ?_
 refine AW.region ?_
 refine OpsW.q rfl (q_move (v := S _) rfl) ?_
 refine OpsW.m rfl (o_call rfl Tryz.func35 rfl rfl (ReadyR_con hkn.1)) ?_
 rintro v29 H1 ⟨vk, vs, rfl, hR1⟩
 have hS1 := hS0.join hR1
 simp only [List.cons_append, List.nil_append] at hS1
 clear hR1 hS0
 refine OpsW.m rfl (s_alloc (z := .agg #[.slice none 0 0, .slice none 0 0]) (cs := [.slice none 0 0, .slice none 0 0]) hS1 (by kernel_rfl) rfl) ?_
 rintro _ H2 ⟨b10, rfl, hS2⟩
 clear hS1
 refine OpsW.ms (s_storeS (n := 2) hS2 at0 (by kernel_rfl) rfl rfl rfl (ones_two (hS2.vec at1).one (hS2.vec at2).one) rfl) ?_
 rintro _ H3 ⟨rfl, hS3⟩
 clear hS2
 refine OpsW.nil ?_
 refine SeqP.go ?_
 refine AW.seq ?_
 refine AW.region ?_
 refine OpsW.q rfl (q_loadA0 (n := 2) (by kernel_rfl) rfl (hS3.blk at0) (by simp; done)) ?_
 refine OpsW.q rfl (q_move (v := S _) rfl) ?_
 refine OpsW.q rfl (q_move (v := S _) rfl) ?_
 refine OpsW.q rfl (o_call rfl Tryz.func36 rfl rfl (streamR_con (hS3.vec at1) (hS3.vec at2) hkn.1 hkn.2 (by omega))) ?_
 refine OpsW.q rfl (q_assign (v := S _) rfl) ?_
 refine OpsW.nil ?_
 refine SeqP.go ?_
 refine AW.seq ?_
 refine AW.region ?_
 refine OpsW.q rfl (q_move (v := S _) rfl) ?_
 refine OpsW.q rfl (q_loadA0 (n := 2) (by kernel_rfl) rfl (hS3.blk at0) (by simp; done)) ?_
 refine OpsW.q rfl (q_move (v := S _) rfl) ?_
 refine OpsW.q rfl (q_move (v := S _) rfl) ?_
 refine OpsW.q rfl (q_move (v := S _) rfl) ?_
 refine OpsW.q rfl (o_call rfl Tryz.func37 rfl rfl (tagR_con (hS3.vec at1) (hS3.vec at2) hkn.1 hkn.2 (by omega) (by omega))) ?_
 refine OpsW.q rfl (q_cat rfl rfl (by omega)) ?_
 refine OpsW.q rfl (q_assign (v := S _) rfl) ?_
 refine OpsW.q rfl (q_assign (v := .int _ _) rfl) ?_
 refine OpsW.nil ?_
 refine SeqP.go ?_
 refine AW.ret ?_
 refine RetP.mk2 (H' := H) (v1 := S _) (v2 := .int _ _) rfl rfl rfl  hS3.le ?_
 rw [sealP_ok hkn hbd]
 exact ⟨rfl, rfl⟩
theorem OpenR_con {key nonce b s : List UInt8} (hb : b.length ≤ 4294967296) (hs : s.length ≤ 4294967296) : Con Tryz.prog w0 51 #[S key, S nonce, S b, S s] H (fun v H' => v = .tuple #[S (openP key nonce b s).1, .int .i64 (openP key nonce b s).2] ∧ H' = H) := by
 have hS0 : Sep H [] H := Sep.refl
 refine Con.intro Tryz.func51 rfl rfl ?_
 refine AW.seq ?_
 refine AW.region ?_
 refine OpsW.q rfl (q_assign (v := S _) rfl) ?_
 refine OpsW.q rfl (q_assign (v := .int _ _) rfl) ?_
 refine OpsW.nil ?_
 refine SeqP.go ?_
 refine AW.seq ?_
 refine AW.seq ?_
 refine AW.region ?_
 refine OpsW.q rfl (q_move (v := S _) rfl) ?_
 refine OpsW.q rfl (q_lenS Tryz.underlying9 rfl) ?_
 refine OpsW.q rfl (q_neq rfl rfl) ?_
 refine OpsW.qb rfl (q_move (v := .bool _) rfl) ?_
 intro b15 eb15
 refine OpsW.g rfl rfl rfl (fun hB => by simp only [Bool.and_eq_true, beq_iff_eq] at hB; obtain rfl := hB; exact (q_move (v := S _) rfl)) ?_
 refine OpsW.g rfl rfl rfl (fun hB => by simp only [Bool.and_eq_true, beq_iff_eq] at hB; obtain rfl := hB; exact (q_lenS Tryz.underlying9 rfl)) ?_
 refine OpsW.g rfl rfl rfl (fun hB => by simp only [Bool.and_eq_true, beq_iff_eq] at hB; obtain rfl := hB; exact (q_neq rfl rfl)) ?_
 refine OpsW.q rfl (q_or2 rfl rfl rfl) ?_
 refine OpsW.nil ?_
 refine SeqP.go ?_
 refine AW.cond rfl (fun h0 => ?_) (fun h0 => ?_)
 ·
  try simp only [eb15, z1, z2, z3, z4, z5, z6, z7, z8, z9, z10, z11, z12, z13, z14] at h0
  rw [openP_key (by omega)]
  refine AW.seq ?_
  refine AW.region ?_
  refine OpsW.q rfl (q_assign (v := S _) rfl) ?_
  refine OpsW.q rfl (q_assign (v := .int _ _) rfl) ?_
  refine OpsW.nil ?_
  refine SeqP.go ?_
  refine AW.ret ?_
  refine SeqP.ret ?_
  refine RetP.mk2 (H' := H) (v1 := S _) (v2 := .int _ _) rfl rfl rfl  hS0.le ?_
  exact ⟨rfl, rfl⟩
 try simp only [eb15, z1, z2, z3, z4, z5, z6, z7, z8, z9, z10, z11, z12, z13, z14] at h0
 have hkn : key.length = 16 ∧ nonce.length = 12 := by omega
 refine AW.skip ?_
 refine SeqP.go ?_
 refine AW.seq ?_
 refine AW.seq ?_
 refine AW.region ?_
 refine OpsW.q rfl (q_move (v := S _) rfl) ?_
 refine OpsW.q rfl (q_lenS Tryz.underlying9 rfl) ?_
 refine OpsW.q rfl (q_lss rfl rfl) ?_
 refine OpsW.nil ?_
 refine SeqP.go ?_
 refine AW.cond rfl (fun h1 => ?_) (fun h1 => ?_)
 ·
  try simp only [eb15, z1, z2, z3, z4, z5, z6, z7, z8, z9, z10, z11, z12, z13, z14] at h1
  rw [openP_short hkn (by omega)]
  refine AW.seq ?_
  refine AW.region ?_
  refine OpsW.q rfl (q_assign (v := S _) rfl) ?_
  refine OpsW.q rfl (q_assign (v := .int _ _) rfl) ?_
  refine OpsW.nil ?_
  refine SeqP.go ?_
  refine AW.ret ?_
  refine SeqP.ret ?_
  refine RetP.mk2 (H' := H) (v1 := S _) (v2 := .int _ _) rfl rfl rfl  hS0.le ?_
  exact ⟨rfl, rfl⟩
 try simp only [eb15, z1, z2, z3, z4, z5, z6, z7, z8, z9, z10, z11, z12, z13, z14] at h1
 have h16 : ¬ s.length < 16 := by omega
 refine AW.skip ?_
 refine SeqP.go ?_
 refine AW.seq ?_
 refine AW.seq ?_
 refine AW.region ?_
 refine OpsW.q rfl (q_move (v := S _) rfl) ?_
 refine OpsW.q rfl (q_lenS Tryz.underlying9 rfl) ?_
 refine OpsW.q rfl (q_gtr rfl rfl) ?_
 refine OpsW.qb rfl (q_move (v := .bool _) rfl) ?_
 intro b26 eb26
 refine OpsW.g rfl rfl rfl (fun hB => by simp only [Bool.and_eq_true, beq_iff_eq] at hB; obtain rfl := hB; exact (q_move (v := S _) rfl)) ?_
 refine OpsW.g rfl rfl rfl (fun hB => by simp only [Bool.and_eq_true, beq_iff_eq] at hB; obtain rfl := hB; exact (q_lenS Tryz.underlying9 rfl)) ?_
 refine OpsW.g rfl rfl rfl (fun hB => by simp only [Bool.and_eq_true, beq_iff_eq] at hB; obtain rfl := hB; exact (q_gtr rfl rfl)) ?_
 refine OpsW.q rfl (q_or2 rfl rfl rfl) ?_
 refine OpsW.nil ?_
 refine SeqP.go ?_
 refine AW.cond rfl (fun h2 => ?_) (fun h2 => ?_)
 ·
  try simp only [eb15, eb26, z1, z2, z3, z4, z5, z6, z7, z8, z9, z10, z11, z12, z13, z14] at h2
  rw [openP_big hkn h16 (by omega)]
  refine AW.seq ?_
  refine AW.region ?_
  refine OpsW.q rfl (q_assign (v := S _) rfl) ?_
  refine OpsW.q rfl (q_assign (v := .int _ _) rfl) ?_
  refine OpsW.nil ?_
  refine SeqP.go ?_
  refine AW.ret ?_
  refine SeqP.ret ?_
  refine RetP.mk2 (H' := H) (v1 := S _) (v2 := .int _ _) rfl rfl rfl  hS0.le ?_
  exact ⟨rfl, rfl⟩
 try simp only [eb15, eb26, z1, z2, z3, z4, z5, z6, z7, z8, z9, z10, z11, z12, z13, z14] at h2
 have hbd : ¬ (1048576 < b.length ∨ 1048592 < s.length) := by omega
 have hsl := strmB_length' key nonce (s.take (s.length - 16))
 have htl : (s.take (s.length - 16)).length = s.length - 16 := by rw [List.length_take]; omega
 refine AW.skip ?_
 refine SeqP.go ?_
 refine AW.seq ?_
 refine AW.region ?_
 refine OpsW.q rfl (q_move (v := S _) rfl) ?_
 refine OpsW.m rfl (o_call rfl Tryz.func35 rfl rfl (ReadyR_con hkn.1)) ?_
 rintro v32 H1 ⟨vk, vs, rfl, hR1⟩
 have hS1 := hS0.join hR1
 simp only [List.cons_append, List.nil_append] at hS1
 clear hR1 hS0
 refine OpsW.m rfl (s_alloc (z := .agg #[.slice none 0 0, .slice none 0 0]) (cs := [.slice none 0 0, .slice none 0 0]) hS1 (by kernel_rfl) rfl) ?_
 rintro _ H2 ⟨b10, rfl, hS2⟩
 clear hS1
 refine OpsW.ms (s_storeS (n := 2) hS2 at0 (by kernel_rfl) rfl rfl rfl (ones_two (hS2.vec at1).one (hS2.vec at2).one) rfl) ?_
 rintro _ H3 ⟨rfl, hS3⟩
 clear hS2
 refine OpsW.nil ?_
 refine SeqP.go ?_
 refine AW.seq ?_
 refine AW.region ?_
 refine OpsW.q rfl (q_move (v := S _) rfl) ?_
 refine OpsW.q rfl (q_move (v := S _) rfl) ?_
 refine OpsW.q rfl (q_lenS Tryz.underlying9 rfl) ?_
 refine OpsW.q rfl (q_subI rfl rfl (by omega)) ?_
 refine OpsW.q rfl (q_sliceS_hi Tryz.underlying9 rfl rfl (by omega) (by omega)) ?_
 rw [show ((s.length : Int) - 16).toNat = s.length - 16 from by omega]
 refine OpsW.q rfl (q_assign (v := S _) rfl) ?_
 refine OpsW.nil ?_
 refine SeqP.go ?_
 refine AW.seq ?_
 refine AW.seq ?_
 refine AW.drawK [] 10 rfl (by kernel_rfl) ?_
 refine SeqK.q rfl (q_loadA0 (n := 2) (by kernel_rfl) rfl (hS3.blk at0) (by simp; done)) ?_
 refine SeqK.q rfl (q_move (v := S _) rfl) ?_
 refine SeqK.q rfl (q_move (v := S _) rfl) ?_
 refine SeqK.q rfl (q_move (v := S _) rfl) ?_
 refine SeqK.q rfl (o_call rfl Tryz.func37 rfl rfl (tagR_con (hS3.vec at1) (hS3.vec at2) hkn.1 hkn.2 (by omega) (by omega))) ?_
 refine SeqK.q rfl (q_move (v := S _) rfl) ?_
 refine SeqK.q rfl (q_move (v := S _) rfl) ?_
 refine SeqK.q rfl (q_lenS Tryz.underlying9 rfl) ?_
 refine SeqK.q rfl (q_subI rfl rfl (by omega)) ?_
 refine SeqK.q rfl (q_sliceS_lo Tryz.underlying9 rfl rfl (by omega) (by omega)) ?_
 rw [show ((s.length : Int) - 16).toNat = s.length - 16 from by omega]
 refine SeqK.done ?_
 refine OpsW.q rfl (q_neS rfl rfl) ?_
 refine OpsW.nil ?_
 refine SeqP.go ?_
 refine AW.cond rfl (fun h3 => ?_) (fun h3 => ?_)
 ·
  try simp only [eb15, eb26, z1, z2, z3, z4, z5, z6, z7, z8, z9, z10, z11, z12, z13, z14] at h3
  have hne : ¬ gtag key nonce b (s.take (s.length - 16)) = s.drop (s.length - 16) := h3
  rw [openP_tag hkn h16 hbd hne]
  refine AW.seq ?_
  refine AW.region ?_
  refine OpsW.q rfl (q_assign (v := S _) rfl) ?_
  refine OpsW.q rfl (q_assign (v := .int _ _) rfl) ?_
  refine OpsW.nil ?_
  refine SeqP.go ?_
  refine AW.ret ?_
  refine SeqP.ret ?_
  refine RetP.mk2 (H' := H) (v1 := S _) (v2 := .int _ _) rfl rfl rfl  hS3.le ?_
  exact ⟨rfl, rfl⟩
 try simp only [eb15, eb26, z1, z2, z3, z4, z5, z6, z7, z8, z9, z10, z11, z12, z13, z14] at h3
 have heq : gtag key nonce b (s.take (s.length - 16)) = s.drop (s.length - 16) := h3
 refine AW.skip ?_
 refine SeqP.go ?_
 refine AW.seq ?_
 refine AW.region ?_
 refine OpsW.q rfl (q_loadA0 (n := 2) (by kernel_rfl) rfl (hS3.blk at0) (by simp; done)) ?_
 refine OpsW.q rfl (q_move (v := S _) rfl) ?_
 refine OpsW.q rfl (q_move (v := S _) rfl) ?_
 refine OpsW.q rfl (o_call rfl Tryz.func36 rfl rfl (streamR_con (hS3.vec at1) (hS3.vec at2) hkn.1 hkn.2 (by omega))) ?_
 refine OpsW.q rfl (q_assign (v := S _) rfl) ?_
 refine OpsW.q rfl (q_assign (v := .int _ _) rfl) ?_
 refine OpsW.nil ?_
 refine SeqP.go ?_
 refine AW.ret ?_
 refine RetP.mk2 (H' := H) (v1 := S _) (v2 := .int _ _) rfl rfl rfl  hS3.le ?_
 rw [openP_ok hkn h16 hbd heq]
 exact ⟨rfl, rfl⟩
theorem gOpen_con {key nonce b s : List UInt8} (hb : b.length ≤ 4294967296) (hs : s.length ≤ 4294967296) : Con Tryz.prog w0 43 #[S key, S nonce, S b, S s] H (fun v H' => v = .tuple #[S (openP key nonce b s).1, .int .i64 (openP key nonce b s).2] ∧ H' = H) := by
 have hS0 : Sep H [] H := Sep.refl
 refine Con.intro Tryz.func43 rfl rfl ?_
 refine AW.seq ?_
 refine AW.region ?_
 refine OpsW.q rfl (q_assign (v := S _) rfl) ?_
 refine OpsW.q rfl (q_assign (v := .int _ _) rfl) ?_
 refine OpsW.nil ?_
 refine SeqP.go ?_
 refine AW.seq ?_
 refine AW.region ?_
 refine OpsW.q rfl (q_move (v := S _) rfl) ?_
 refine OpsW.q rfl (q_lenS Tryz.underlying9 rfl) ?_
 refine OpsW.q rfl (q_subI rfl rfl (by omega)) ?_
 refine OpsW.q rfl (q_assign (v := .int _ _) rfl) ?_
 refine OpsW.nil ?_
 refine SeqP.go ?_
 refine AW.seq ?_
 refine AW.block ?_
 refine AW.seq ?_
 refine AW.region ?_
 refine OpsW.q rfl (q_move (v := S _) rfl) ?_
 refine OpsW.q rfl (q_lenS Tryz.underlying9 rfl) ?_
 refine OpsW.q rfl (q_neq rfl rfl) ?_
 refine OpsW.qb rfl (q_move (v := .bool _) rfl) ?_
 intro b21 eb21
 refine OpsW.g rfl rfl rfl (fun hB => by simp only [Bool.and_eq_true, beq_iff_eq] at hB; obtain rfl := hB; exact (q_move (v := S _) rfl)) ?_
 refine OpsW.g rfl rfl rfl (fun hB => by simp only [Bool.and_eq_true, beq_iff_eq] at hB; obtain rfl := hB; exact (q_lenS Tryz.underlying9 rfl)) ?_
 refine OpsW.g rfl rfl rfl (fun hB => by simp only [Bool.and_eq_true, beq_iff_eq] at hB; obtain rfl := hB; exact (q_neq rfl rfl)) ?_
 refine OpsW.q rfl (q_or2 rfl rfl rfl) ?_
 refine OpsW.q rfl (q_assign (v := .bool _) rfl) ?_
 refine OpsW.nil ?_
 refine SeqP.go ?_
 refine AW.cond rfl (fun h0 => ?_) (fun h0 => ?_)
 ·
  try simp only [eb21, z1, z2, z3, z4, z5, z6, z7, z8, z9, z10, z11, z12, z13, z14] at h0
  rw [openP_key (by omega)]
  refine AW.seq ?_
  refine AW.region ?_
  refine OpsW.q rfl (q_assign (v := S _) rfl) ?_
  refine OpsW.q rfl (q_assign (v := .int _ _) rfl) ?_
  refine OpsW.nil ?_
  refine SeqP.go ?_
  refine AW.ret ?_
  refine BlockP.ret ?_
  refine SeqP.ret ?_
  refine RetP.mk2 (H' := H) (v1 := S _) (v2 := .int _ _) rfl rfl rfl  hS0.le ?_
  exact ⟨rfl, rfl⟩
 try simp only [eb21, z1, z2, z3, z4, z5, z6, z7, z8, z9, z10, z11, z12, z13, z14] at h0
 have hkn : key.length = 16 ∧ nonce.length = 12 := by omega
 refine AW.seq ?_
 refine AW.region ?_
 refine OpsW.q rfl (q_move (v := .int _ _) rfl) ?_
 refine OpsW.q rfl (q_lss rfl rfl) ?_
 refine OpsW.q rfl (q_assign (v := .bool _) rfl) ?_
 refine OpsW.nil ?_
 refine SeqP.go ?_
 refine AW.cond rfl (fun h1 => ?_) (fun h1 => ?_)
 ·
  try simp only [eb21, z1, z2, z3, z4, z5, z6, z7, z8, z9, z10, z11, z12, z13, z14] at h1
  rw [openP_short hkn (by omega)]
  refine AW.seq ?_
  refine AW.region ?_
  refine OpsW.q rfl (q_assign (v := S _) rfl) ?_
  refine OpsW.q rfl (q_assign (v := .int _ _) rfl) ?_
  refine OpsW.nil ?_
  refine SeqP.go ?_
  refine AW.ret ?_
  refine BlockP.ret ?_
  refine SeqP.ret ?_
  refine RetP.mk2 (H' := H) (v1 := S _) (v2 := .int _ _) rfl rfl rfl  hS0.le ?_
  exact ⟨rfl, rfl⟩
 try simp only [eb21, z1, z2, z3, z4, z5, z6, z7, z8, z9, z10, z11, z12, z13, z14] at h1
 have h16 : ¬ s.length < 16 := by omega
 rw [show (s.length : Int) - 16 = ((s.length - 16 : Nat) : Int) from by omega]
 refine AW.seq ?_
 refine AW.region ?_
 refine OpsW.q rfl (q_move (v := S _) rfl) ?_
 refine OpsW.q rfl (q_lenS Tryz.underlying9 rfl) ?_
 refine OpsW.q rfl (q_gtr rfl rfl) ?_
 refine OpsW.qb rfl (q_move (v := .bool _) rfl) ?_
 intro b33 eb33
 refine OpsW.g rfl rfl rfl (fun hB => by simp only [Bool.and_eq_true, beq_iff_eq] at hB; obtain rfl := hB; exact (q_move (v := .int _ _) rfl)) ?_
 refine OpsW.g rfl rfl rfl (fun hB => by simp only [Bool.and_eq_true, beq_iff_eq] at hB; obtain rfl := hB; exact (q_gtr rfl rfl)) ?_
 refine OpsW.q rfl (q_or2 rfl rfl rfl) ?_
 refine OpsW.q rfl (q_assign (v := .bool _) rfl) ?_
 refine OpsW.nil ?_
 refine SeqP.go ?_
 refine AW.cond rfl (fun h2 => ?_) (fun h2 => ?_)
 ·
  try simp only [eb21, eb33, z1, z2, z3, z4, z5, z6, z7, z8, z9, z10, z11, z12, z13, z14] at h2
  rw [openP_big hkn h16 (by omega)]
  refine AW.seq ?_
  refine AW.region ?_
  refine OpsW.q rfl (q_assign (v := S _) rfl) ?_
  refine OpsW.q rfl (q_assign (v := .int _ _) rfl) ?_
  refine OpsW.nil ?_
  refine SeqP.go ?_
  refine AW.ret ?_
  refine BlockP.ret ?_
  refine SeqP.ret ?_
  refine RetP.mk2 (H' := H) (v1 := S _) (v2 := .int _ _) rfl rfl rfl  hS0.le ?_
  exact ⟨rfl, rfl⟩
 try simp only [eb21, eb33, z1, z2, z3, z4, z5, z6, z7, z8, z9, z10, z11, z12, z13, z14] at h2
 have hbd : ¬ (1048576 < b.length ∨ 1048592 < s.length) := by omega
 have hsl := strmB_length' key nonce (s.take (s.length - 16))
 have htl : (s.take (s.length - 16)).length = s.length - 16 := by rw [List.length_take]; omega
 have hp := pair_length (beK (blkA key (ctrB nonce 1)) 16)
 have ho := overK_length' key nonce ((s.length - 16 + 15) / 16)
 have hgl := gtag_length' key nonce b (s.take (s.length - 16))
 refine AW.skip ?_
 refine BlockP.go ?_
 refine SeqP.go ?_
 refine AW.seq ?_
 refine AW.region ?_
 refine OpsW.q rfl (q_move (v := S _) rfl) ?_
 refine OpsW.q rfl (q_move (v := S _) rfl) ?_
 refine OpsW.q rfl (q_move (v := .int _ _) rfl) ?_
 refine OpsW.q rfl (o_call rfl Tryz.func72 rfl rfl (pads_con hkn.1 hkn.2 (by omega))) ?_
 refine OpsW.q rfl (q_move (v := .tuple _) rfl) ?_
 refine OpsW.q rfl (q_extract (v := S _) rfl rfl) ?_
 refine OpsW.q rfl (q_extract (v := .agg _) rfl rfl) ?_
 refine OpsW.q rfl (q_extract (v := S _) rfl rfl) ?_
 refine OpsW.m rfl (s_allocN (k := .u64) (m := 2) hS0 (by kernel_rfl)) ?_
 rintro _ H1 ⟨b12, rfl, hS1⟩
 clear hS0
 refine OpsW.q rfl (q_assign (v := S _) rfl) ?_
 refine OpsW.ms (s_storeA (n := 2) (k := .u64) hS1 at0 (by kernel_rfl) rfl rfl (by with_reducible assumption) (by rfl)) ?_
 rintro _ H2 ⟨rfl, hS2⟩
 clear hS1
 refine OpsW.q rfl (q_assign (v := S _) rfl) ?_
 refine OpsW.nil ?_
 refine SeqP.go ?_
 refine AW.seq ?_
 refine AW.seq ?_
 refine AW.drawK [] 10 rfl (by kernel_rfl) ?_
 refine SeqK.q rfl (q_move (v := S _) rfl) ?_
 refine SeqK.q rfl (q_loadAN (n := 2) (k := .u64) (by kernel_rfl) rfl (hS2.blk at0) (by with_reducible assumption)) ?_
 refine SeqK.q rfl (q_move (v := S _) rfl) ?_
 refine SeqK.q rfl (q_move (v := S _) rfl) ?_
 refine SeqK.q rfl (q_move (v := .int _ _) rfl) ?_
 refine SeqK.q rfl (q_sliceS_hi Tryz.underlying9 rfl rfl (by omega) (by omega)) ?_
 rw [Int.toNat_natCast]
 refine SeqK.q rfl (o_call rfl Tryz.func73 rfl rfl (gtag_con (blkA_length _ _) (blkA_length _ _) (by omega) (by omega))) ?_
 rw [← gtag_eq key nonce b (s.take (s.length - 16))]
 refine SeqK.q rfl (q_move (v := S _) rfl) ?_
 refine SeqK.q rfl (q_move (v := .int _ _) rfl) ?_
 refine SeqK.q rfl (q_sliceS_lo Tryz.underlying9 rfl rfl (by omega) (by omega)) ?_
 rw [Int.toNat_natCast]
 refine SeqK.done ?_
 refine OpsW.q rfl (o_call rfl Tryz.func44 rfl rfl (Same_con (by omega))) ?_
 refine OpsW.q rfl (q_not rfl) ?_
 refine OpsW.nil ?_
 refine SeqP.go ?_
 refine AW.cond rfl (fun h3 => ?_) (fun h3 => ?_)
 ·
  try simp only [eb21, eb33, z1, z2, z3, z4, z5, z6, z7, z8, z9, z10, z11, z12, z13, z14] at h3
  have hne : ¬ gtag key nonce b (s.take (s.length - 16)) = s.drop (s.length - 16) := by simpa using h3
  rw [openP_tag hkn h16 hbd hne]
  refine AW.seq ?_
  refine AW.region ?_
  refine OpsW.q rfl (q_assign (v := S _) rfl) ?_
  refine OpsW.q rfl (q_assign (v := .int _ _) rfl) ?_
  refine OpsW.nil ?_
  refine SeqP.go ?_
  refine AW.ret ?_
  refine SeqP.ret ?_
  refine RetP.mk2 (H' := H) (v1 := S _) (v2 := .int _ _) rfl rfl rfl  hS2.le ?_
  exact ⟨rfl, rfl⟩
 try simp only [eb21, eb33, z1, z2, z3, z4, z5, z6, z7, z8, z9, z10, z11, z12, z13, z14] at h3
 have heq : gtag key nonce b (s.take (s.length - 16)) = s.drop (s.length - 16) := by simpa using h3
 refine AW.skip ?_
 refine SeqP.go ?_
 refine AW.seq ?_
 refine AW.region ?_
 refine OpsW.q rfl (q_move (v := S _) rfl) ?_
 refine OpsW.q rfl (q_move (v := .int _ _) rfl) ?_
 refine OpsW.q rfl (q_sliceS_hi Tryz.underlying9 rfl rfl (by omega) (by omega)) ?_
 rw [Int.toNat_natCast]
 refine OpsW.q rfl (q_move (v := S _) rfl) ?_
 refine OpsW.q rfl (o_call rfl Tryz.func74 rfl rfl (laid_con (by rw [htl, ho]; omega) (by omega))) ?_
 refine OpsW.q rfl (q_assign (v := S _) rfl) ?_
 refine OpsW.q rfl (q_assign (v := .int _ _) rfl) ?_
 refine OpsW.nil ?_
 refine SeqP.go ?_
 refine AW.ret ?_
 refine RetP.mk2 (H' := H) (v1 := S _) (v2 := .int _ _) rfl rfl rfl  hS2.le ?_
 rw [openP_ok hkn h16 hbd heq, strmB_eq, htl]
 exact ⟨rfl, rfl⟩
end
end Go.Proofs.YtfpoldogcopmpaaGreatDoor
end
