/-
 The proof's texts, joined, without what the statements do not reach: part 9 of 9. No condition.
-/
import Derived.Test.YtfpoldogcopmpaaGreatDoorRows
import Derived.Test.YtfpoldogcopmpaaGreatDoorCards
import Derived.Test.YtfpoldogcopmpaaGreatDoorTie
import Derived.WalkKit
import Derived.KernelRfl
import Derived.Lib.ConvBytes
import Derived.WalkSpells
import Derived.WalkLawsBesides
import Derived.ProofKit
import Derived.ChangeMaps5
import Derived.ChangeSlices
import Derived.Deep.Strs
import Derived.Handed
import Derived.LaidLaws
import Derived.LaidMore
import Derived.Lay
import Derived.SevenTiedAt
import Derived.Stop.Joined
import Derived.DataElems
import Derived.OpenShut
import Derived.Test.YtfpoldogcopmpaaGreatDoorProg
import Derived.Lib.TrimByte
import Derived.Shelf.Bits.Mul64
import Derived.Shelf.Small.Strs
import Derived.Shelf.Small.Utf8
import Derived.Shelf.Strings.AsciiSet
import Derived.Shelf.Strings.Builder1
import Derived.Shelf.Strings.Builder2
import Derived.Shelf.Strings.Builder2Cap
import Derived.Shelf.Strings.BuilderF
import Derived.Shelf.Strings.Prefix
import Derived.Shelf.Strings.Repeat
import Derived.Shelf.Strings.Runes
import Derived.Shelf.Strings.Search1
import Derived.Shelf.Strings.Trim
import Derived.Shelf.Unicode.Decode
import Derived.Shelf.Unicode.DecodeAny
import Derived.Shelf.Unicode.DecodeLast
import Derived.Shelf.Unicode.DecodeSlow
import Derived.Test.YtfpoldogcopmpaaGreatDoorKh
section
namespace Go.Proofs.YtfpoldogcopmpaaGreatDoor
open Go Go.RowKit D
set_option linter.unusedVariables false
set_option linter.unusedSimpArgs false
set_option maxRecDepth 100000
set_option maxHeartbeats 2000000
section
variable {w0 : World} {H : Hp} {H0 : Hp}
theorem NewBoxR_s (suite : Int) (key iv : List UInt8) : Con Tryz.prog w0 7 #[.int .i64 suite, S key, S iv] H (fun v H' => (¬ boxE suite key iv = 0 ∧ v = .tuple #[.pointer none, .int .i64 (boxE suite key iv)] ∧ H' = H) ∨ (boxE suite key iv = 0 ∧ ∃ b, v = .tuple #[.pointer (some ⟨b, 0, none⟩), .int .i64 0] ∧ Sep H [.blk b (rbxBlk ⟨suite, key, iv, 0⟩)] H')) := by
 have hS0 : Sep H [] H := Sep.refl
 refine Con.intro Tryz.func7 rfl rfl ?_
 refine AW.seq ?_
 refine AW.region ?_
 refine OpsW.q rfl (q_assign (v := .pointer _) rfl) ?_
 refine OpsW.q rfl (q_assign (v := .int _ _) rfl) ?_
 refine OpsW.nil ?_
 refine SeqP.go ?_
 refine AW.seq ?_
 refine AW.region ?_
 refine OpsW.q rfl (q_move (v := .int _ _) rfl) ?_
 refine OpsW.q rfl (o_call rfl Tryz.func19 rfl rfl (SizeR_con _)) ?_
 refine OpsW.q rfl (q_assign (v := .int _ _) rfl) ?_
 refine OpsW.nil ?_
 refine SeqP.go ?_
 refine AW.seq ?_
 refine AW.seq ?_
 refine AW.region ?_
 refine OpsW.q rfl (q_move (v := .int _ _) rfl) ?_
 refine OpsW.q rfl (q_eql rfl rfl) ?_
 refine OpsW.nil ?_
 refine SeqP.go ?_
 refine AW.cond rfl (fun h0 => ?_) (fun h0 => ?_)
 ·
  try simp only [z1, z2, z3, z4, z5, z6, z7, z8, z9, z10, z11, z12, z13, z14] at h0
  have he := boxE_arg (key := key) (iv := iv) h0
  refine AW.seq ?_
  refine AW.region ?_
  refine OpsW.q rfl (q_assign (v := .pointer _) rfl) ?_
  refine OpsW.q rfl (q_assign (v := .int _ _) rfl) ?_
  refine OpsW.nil ?_
  refine SeqP.go ?_
  refine AW.ret ?_
  refine SeqP.ret ?_
  refine RetP.mk2 (H' := H) (v1 := .pointer _) (v2 := .int _ _) rfl rfl rfl  (Hp.le_refl _) ?_
  exact .inl ⟨by rw [he]; decide, by rw [he], rfl⟩
 try simp only [z1, z2, z3, z4, z5, z6, z7, z8, z9, z10, z11, z12, z13, z14] at h0
 refine AW.skip ?_
 refine SeqP.go ?_
 refine AW.seq ?_
 refine AW.seq ?_
 refine AW.region ?_
 refine OpsW.q rfl (q_move (v := S _) rfl) ?_
 refine OpsW.q rfl (q_lenS Tryz.underlying9 rfl) ?_
 refine OpsW.q rfl (q_move (v := .int _ _) rfl) ?_
 refine OpsW.q rfl (q_neq rfl rfl) ?_
 refine OpsW.qb rfl (q_move (v := .bool _) rfl) ?_
 intro b17 eb17
 refine OpsW.g rfl rfl rfl (fun hB => by simp only [Bool.and_eq_true, beq_iff_eq] at hB; obtain rfl := hB; exact (q_move (v := S _) rfl)) ?_
 refine OpsW.g rfl rfl rfl (fun hB => by simp only [Bool.and_eq_true, beq_iff_eq] at hB; obtain rfl := hB; exact (q_lenS Tryz.underlying9 rfl)) ?_
 refine OpsW.g rfl rfl rfl (fun hB => by simp only [Bool.and_eq_true, beq_iff_eq] at hB; obtain rfl := hB; exact (q_neq rfl rfl)) ?_
 refine OpsW.q rfl (q_or2 rfl rfl rfl) ?_
 refine OpsW.nil ?_
 refine SeqP.go ?_
 refine AW.cond rfl (fun h1 => ?_) (fun h1 => ?_)
 ·
  try simp only [eb17, z1, z2, z3, z4, z5, z6, z7, z8, z9, z10, z11, z12, z13, z14] at h1
  have he := boxE_key (key := key) (iv := iv) h0 (by simp_all <;> omega)
  refine AW.seq ?_
  refine AW.region ?_
  refine OpsW.q rfl (q_assign (v := .pointer _) rfl) ?_
  refine OpsW.q rfl (q_assign (v := .int _ _) rfl) ?_
  refine OpsW.nil ?_
  refine SeqP.go ?_
  refine AW.ret ?_
  refine SeqP.ret ?_
  refine RetP.mk2 (H' := H) (v1 := .pointer _) (v2 := .int _ _) rfl rfl rfl  (Hp.le_refl _) ?_
  exact .inl ⟨by rw [he]; decide, by rw [he], rfl⟩
 try simp only [eb17, z1, z2, z3, z4, z5, z6, z7, z8, z9, z10, z11, z12, z13, z14] at h1
 have he := boxE_ok (key := key) (iv := iv) h0 (by simp_all <;> omega)
 refine AW.skip ?_
 refine SeqP.go ?_
 refine AW.seq ?_
 refine AW.region ?_
 refine OpsW.q rfl (q_move (v := .int _ _) rfl) ?_
 refine OpsW.q rfl (q_move (v := S _) rfl) ?_
 refine OpsW.q rfl (q_move (v := S _) rfl) ?_
 refine OpsW.q rfl (q_build (cells := #[.int .i64 suite, S key, S iv, .int .i64 0]) rfl (by kernel_rfl)) ?_
 refine OpsW.m rfl (s_box (v := .agg _) hS0 rfl rfl) ?_
 rintro _ H1 ⟨b26, rfl, hS1⟩
 clear hS0
 refine OpsW.q rfl (q_assign (v := .pointer _) rfl) ?_
 refine OpsW.q rfl (q_assign (v := .int _ _) rfl) ?_
 refine OpsW.nil ?_
 refine SeqP.go ?_
 refine AW.ret ?_
 refine RetP.mk2 (H' := H1) (v1 := .pointer _) (v2 := .int _ _) rfl rfl rfl  (Hp.le_refl _) ?_
 exact .inr ⟨he, b26, rfl, hS1⟩
theorem NewBoxR_ok {suite : Int} {key iv : List UInt8} (h : boxE suite key iv = 0) : Con Tryz.prog w0 7 #[.int .i64 suite, S key, S iv] H (fun v H' => ∃ b, v = .tuple #[.pointer (some ⟨b, 0, none⟩), .int .i64 0] ∧ Sep H [.blk b (rbxBlk ⟨suite, key, iv, 0⟩)] H') :=
 (NewBoxR_s suite key iv).mono fun _ _ h1 => h1.elim (fun h2 => absurd h h2.1) (fun h2 => h2.2)
theorem NewBoxR_bad {suite : Int} {key iv : List UInt8} (h : ¬ boxE suite key iv = 0) : Con Tryz.prog w0 7 #[.int .i64 suite, S key, S iv] H (fun v H' => v = .tuple #[.pointer none, .int .i64 (boxE suite key iv)] ∧ H' = H) :=
 (NewBoxR_s suite key iv).mono fun _ _ h1 => h1.elim (fun h2 => h2.2) (fun h2 => absurd h2.1 h)
theorem bSealR_s {b : Nat} {x : BoxS} {plain : List UInt8} (hS0 : Sep H0 [.blk b (rbxBlk x)] H) (hbok : BoxOk x) (kind pad : Int) (hp : plain.length ≤ maxLen) (hpad : pad ≤ 9223372036854775807) : Con Tryz.prog w0 13 #[.pointer (some ⟨b, 0, none⟩), .int .i64 kind, S plain, .int .i64 pad] H (fun v H' => v = .tuple #[S (bxSeal x kind plain pad).1, .int .i64 (bxSeal x kind plain pad).2] ∧ Sep H0 [.blk b (rbxBlk (bxAfter x kind plain pad))] H') := by
 obtain ⟨hb1, hb2, hn0, hn1⟩ := hbok
 replace hS0 : Sep H0 [.blk b ⟨[.int .i64 x.suite, S x.key, S x.iv, .int .i64 x.n], 4, 40⟩] H := hS0
 refine Con.intro Tryz.func13 rfl rfl ?_
 refine AW.seq ?_
 refine AW.region ?_
 refine OpsW.q rfl (q_assign (v := S _) rfl) ?_
 refine OpsW.q rfl (q_assign (v := .int _ _) rfl) ?_
 refine OpsW.nil ?_
 refine SeqP.go ?_
 refine AW.seq ?_
 refine AW.seq ?_
 refine AW.region ?_
 refine OpsW.q rfl (q_move (v := .int _ _) rfl) ?_
 refine OpsW.q rfl (o_call rfl Tryz.func31 rfl rfl (IsKindR_con _)) ?_
 refine OpsW.q rfl (q_not rfl) ?_
 refine OpsW.qb rfl (q_move (v := .bool _) rfl) ?_
 intro b19 eb19
 refine OpsW.g rfl rfl rfl (fun hB => by simp only [Bool.and_eq_true, beq_iff_eq] at hB; obtain rfl := hB; exact (q_move (v := .int _ _) rfl)) ?_
 refine OpsW.g rfl rfl rfl (fun hB => by simp only [Bool.and_eq_true, beq_iff_eq] at hB; obtain rfl := hB; exact (q_lss rfl rfl)) ?_
 refine OpsW.q rfl (q_or2 rfl rfl rfl) ?_
 refine OpsW.nil ?_
 refine SeqP.go ?_
 refine AW.cond rfl (fun h0 => ?_) (fun h0 => ?_)
 ·
  try simp only [eb19, z1, z2, z3, z4, z5, z6, z7, z8, z9, z10, z11, z12, z13, z14] at h0
  have hbad : isK kind = false ∨ pad < 0 := by simp_all
  obtain ⟨e1, e2⟩ := bx_arg (x := x) (plain := plain) hbad
  rw [e1, e2]
  refine AW.seq ?_
  refine AW.region ?_
  refine OpsW.q rfl (q_assign (v := S _) rfl) ?_
  refine OpsW.q rfl (q_assign (v := .int _ _) rfl) ?_
  refine OpsW.nil ?_
  refine SeqP.go ?_
  refine AW.ret ?_
  refine SeqP.ret ?_
  refine RetP.mk2 (H' := _) (v1 := S _) (v2 := .int _ _) rfl rfl rfl  (Hp.le_refl _) ?_
  exact ⟨rfl, hS0⟩
 try simp only [eb19, z1, z2, z3, z4, z5, z6, z7, z8, z9, z10, z11, z12, z13, z14] at h0
 have hgood : isK kind = true ∧ 0 ≤ pad := by simp_all
 refine AW.skip ?_
 refine SeqP.go ?_
 refine AW.seq ?_
 refine AW.seq ?_
 refine AW.region ?_
 refine OpsW.q rfl (q_move (v := S _) rfl) ?_
 refine OpsW.q rfl (q_lenS Tryz.underlying9 rfl) ?_
 refine OpsW.q rfl (q_gtr rfl rfl) ?_
 refine OpsW.qb rfl (q_move (v := .bool _) rfl) ?_
 intro b26 eb26
 refine OpsW.g rfl rfl rfl (fun hB => by simp only [Bool.and_eq_true, beq_iff_eq] at hB; obtain rfl := hB; exact (q_move (v := .int _ _) rfl)) ?_
 refine OpsW.g rfl rfl rfl (fun hB => by simp only [Bool.and_eq_true, beq_iff_eq] at hB; obtain rfl := hB; exact (q_gtr rfl rfl)) ?_
 refine OpsW.q rfl (q_or2 rfl rfl rfl) ?_
 refine OpsW.qb rfl (q_move (v := .bool _) rfl) ?_
 intro b30 eb30
 refine OpsW.g rfl rfl rfl (fun hB => by simp only [Bool.and_eq_true, beq_iff_eq] at hB; obtain rfl := hB; exact (q_move (v := S _) rfl)) ?_
 refine OpsW.g rfl rfl rfl (fun hB => by simp only [Bool.and_eq_true, beq_iff_eq] at hB; obtain rfl := hB; exact (q_lenS Tryz.underlying9 rfl)) ?_
 refine OpsW.g rfl rfl rfl (fun hB => by simp only [Bool.and_eq_true, beq_iff_eq] at hB; obtain rfl := hB; exact (q_move (v := .int _ _) rfl)) ?_
 refine OpsW.g rfl rfl rfl (fun hB => by simp only [Bool.and_eq_true, beq_iff_eq] at hB; obtain rfl := hB; (try simp only [eb19, eb26, Bool.true_eq, Bool.false_eq, decide_eq_true_eq, Bool.and_eq_true, Bool.or_eq_true, Bool.or_eq_false_iff, Bool.not_eq_true', decide_eq_false_iff_not, Int.not_lt, Int.not_le] at eb30); exact (q_addI rfl rfl (by omega))) ?_
 refine OpsW.g rfl rfl rfl (fun hB => by simp only [Bool.and_eq_true, beq_iff_eq] at hB; obtain rfl := hB; exact (q_gtr rfl rfl)) ?_
 refine OpsW.q rfl (q_or2 rfl rfl rfl) ?_
 refine OpsW.nil ?_
 refine SeqP.go ?_
 refine AW.cond rfl (fun h1 => ?_) (fun h1 => ?_)
 ·
  try simp only [eb19, eb26, eb30, z1, z2, z3, z4, z5, z6, z7, z8, z9, z10, z11, z12, z13, z14] at h1
  have hbig : 16384 < (plain.length : Int) ∨ 16600 - (plain.length : Int) < pad := by simp_all <;> omega
  obtain ⟨e1, e2⟩ := bx_big (x := x) hgood hbig
  rw [e1, e2]
  refine AW.seq ?_
  refine AW.region ?_
  refine OpsW.q rfl (q_assign (v := S _) rfl) ?_
  refine OpsW.q rfl (q_assign (v := .int _ _) rfl) ?_
  refine OpsW.nil ?_
  refine SeqP.go ?_
  refine AW.ret ?_
  refine SeqP.ret ?_
  refine RetP.mk2 (H' := _) (v1 := S _) (v2 := .int _ _) rfl rfl rfl  (Hp.le_refl _) ?_
  exact ⟨rfl, hS0⟩
 try simp only [eb19, eb26, eb30, z1, z2, z3, z4, z5, z6, z7, z8, z9, z10, z11, z12, z13, z14] at h1
 have hok : ¬ (16384 < (plain.length : Int) ∨ 16600 - (plain.length : Int) < pad) := by simp_all <;> omega
 have hil := bxInner_length kind plain hgood.2
 refine AW.skip ?_
 refine SeqP.go ?_
 refine AW.seq ?_
 refine AW.seq ?_
 refine AW.region ?_
 refine OpsW.q rfl (q_move (v := .pointer _) rfl) ?_
 refine OpsW.q rfl (q_nilCheck rfl) ?_
 refine OpsW.q rfl (q_fieldAddr (sz := 0) Tryz.underlying40 rfl (by kernel_rfl) rfl) ?_
 refine OpsW.q rfl (q_load (v := .int _ _) (by kernel_rfl) rfl (hS0.blk at0) rfl) ?_
 refine OpsW.q rfl (q_geq rfl rfl) ?_
 refine OpsW.nil ?_
 refine SeqP.go ?_
 refine AW.cond rfl (fun h2 => ?_) (fun h2 => ?_)
 ·
  try simp only [eb19, eb26, eb30, z1, z2, z3, z4, z5, z6, z7, z8, z9, z10, z11, z12, z13, z14] at h2
  obtain ⟨e1, e2⟩ := bx_nonce (x := x) hgood hok (by rw [bxNonce_seq (by omega)]; decide)
  rw [e1, e2, bxNonce_seq (by omega)]
  refine AW.seq ?_
  refine AW.region ?_
  refine OpsW.q rfl (q_assign (v := S _) rfl) ?_
  refine OpsW.q rfl (q_assign (v := .int _ _) rfl) ?_
  refine OpsW.nil ?_
  refine SeqP.go ?_
  refine AW.ret ?_
  refine SeqP.ret ?_
  refine RetP.mk2 (H' := _) (v1 := S _) (v2 := .int _ _) rfl rfl rfl  (Hp.le_refl _) ?_
  exact ⟨rfl, hS0⟩
 try simp only [eb19, eb26, eb30, z1, z2, z3, z4, z5, z6, z7, z8, z9, z10, z11, z12, z13, z14] at h2
 have hxn : x.n < 65536 := by omega
 obtain ⟨e1, e2, e3, e4⟩ := bx_full (x := x) ⟨hb1, hb2, hn0, hn1⟩ hxn hgood hok
 have hbs : bxSealed x kind plain pad = slSeal x.suite x.key (nonceB x.iv x.n) (bxHead kind plain pad) (bxInner kind plain pad) := by unfold bxSealed; rw [bxNonce_ok ⟨hb1, hb2, hn0, hn1⟩ hxn]
 refine AW.skip ?_
 refine SeqP.go ?_
 refine AW.seq ?_
 refine AW.steps rfl 11 rfl ?_
 refine AnyW.first 0 rfl (by kernel_rfl) (by kernel_rfl) (by kernel_rfl) rfl (dst_lt rfl) (v_move (v := S _) rfl) ?_
 refine AnyW.first 1 rfl (by kernel_rfl) (by kernel_rfl) (by kernel_rfl) rfl (dst_lt rfl) (v_move (v := .int _ _) rfl) ?_
 refine AnyW.first 6 rfl (by kernel_rfl) (by kernel_rfl) (by kernel_rfl) rfl (dst_lt rfl) (v_move (v := .int _ _) rfl) ?_
 refine AnyW.two 2 7 rfl rfl (by kernel_rfl) rfl rfl (dst_lt rfl) (dst_lt rfl) (q_convInt rfl Tryz.underlying5 rfl) (s_makeSliceN (kk := .u8) (by_ := 1) hS0 Tryz.underlying35 (by kernel_rfl) (by kernel_rfl) (by kernel_rfl) rfl rfl (by omega) (by omega) (by omega) (by with_reducible assumption) (by unfold maxLen; omega)) ?_ ?_
 ·
  rintro _ _ ⟨rfl, rfl⟩
  refine AnyW.two 3 7 rfl rfl (by kernel_rfl) rfl rfl (dst_lt rfl) (dst_lt rfl) (s_buildSlice (z := .int .u8 0) (vs := nums .u8 [_]) hS0 Tryz.underlying35 (by kernel_rfl) (by kernel_rfl) rfl (by rfl) (by rfl) (by decide) rfl (nums_one _ _) rfl) (s_makeSliceN (kk := .u8) (by_ := 1) hS0 Tryz.underlying35 (by kernel_rfl) (by kernel_rfl) (by kernel_rfl) rfl rfl (by omega) (by omega) (by omega) (by with_reducible assumption) (by unfold maxLen; omega)) ?_ ?_
  ·
   rintro v45 H1 hS1
   clear hS0
   refine AnyW.two 4 7 rfl rfl (by kernel_rfl) rfl rfl (dst_lt rfl) (dst_lt rfl) (q_stringVec (hS1.vec at0) Tryz.underlying35 Tryz.underlying5 Tryz.underlying9 rfl) (s_makeSliceN (kk := .u8) (by_ := 1) hS1 Tryz.underlying35 (by kernel_rfl) (by kernel_rfl) (by kernel_rfl) rfl rfl (by omega) (by omega) (by omega) (by with_reducible assumption) (by unfold maxLen; omega)) ?_ ?_
   ·
    rintro _ _ ⟨rfl, rfl⟩
    refine AnyW.two 5 7 rfl rfl (by kernel_rfl) rfl rfl (dst_lt rfl) (dst_lt rfl) (q_cat rfl rfl (by simp only [nums_length, List.length_set, List.length_replicate, List.length_take, List.length_drop, List.length_append, List.length_cons, List.length_nil, ofB_length, toB_length]; omega)) (s_makeSliceN (kk := .u8) (by_ := 1) hS1 Tryz.underlying35 (by kernel_rfl) (by kernel_rfl) (by kernel_rfl) rfl rfl (by omega) (by omega) (by omega) (by with_reducible assumption) (by unfold maxLen; omega)) ?_ ?_
    ·
     rintro _ _ ⟨rfl, rfl⟩
     refine AnyW.only 7 rfl (by kernel_rfl) rfl (dst_lt rfl) (s_makeSliceN (kk := .u8) (by_ := 1) hS1 Tryz.underlying35 (by kernel_rfl) (by kernel_rfl) (by kernel_rfl) rfl rfl (by omega) (by omega) (by omega) (by with_reducible assumption) (by unfold maxLen; omega)) ?_
     rintro v49 H2 hS2
     clear hS1
     refine AnyW.onlyQ 8 rfl (by kernel_rfl) rfl (dst_lt rfl) (q_stringVec (hS2.vec at0) Tryz.underlying35 Tryz.underlying5 Tryz.underlying9 rfl) ?_
     refine AnyW.onlyQ 9 rfl (by kernel_rfl) rfl (dst_lt rfl) (q_cat rfl rfl (by simp only [nums_length, List.length_set, List.length_replicate, List.length_take, List.length_drop, List.length_append, List.length_cons, List.length_nil, ofB_length, toB_length]; omega)) ?_
     rw [show plain ++ toB [IntKind.u8.wrap kind] ++ toB (List.replicate pad.toNat 0) = bxInner kind plain pad from by rw [show toB (List.replicate pad.toNat 0) = List.replicate pad.toNat 0 from by simp [toB]]; rfl]
     refine AnyW.onlyQ 10 rfl (by kernel_rfl) rfl (dst_lt rfl) (q_assign (v := S _) rfl) ?_
     refine AnyW.done (by kernel_rfl) ?_
     refine SeqP.go ?_
     refine AW.seq ?_
     refine AW.drawK [] 13 rfl (by kernel_rfl) ?_
     refine SeqK.q rfl (q_move (v := .pointer _) rfl) ?_
     refine SeqK.q rfl (q_nilCheck rfl) ?_
     refine SeqK.q rfl (q_fieldAddr (sz := 0) Tryz.underlying40 rfl (by kernel_rfl) rfl) ?_
     refine SeqK.q rfl (q_load (v := S _) (by kernel_rfl) rfl (hS2.blk at2) rfl) ?_
     refine SeqK.q rfl (q_move (v := .pointer _) rfl) ?_
     refine SeqK.q rfl (q_nilCheck rfl) ?_
     refine SeqK.q rfl (q_fieldAddr (sz := 0) Tryz.underlying40 rfl (by kernel_rfl) rfl) ?_
     refine SeqK.q rfl (q_load (v := .int _ _) (by kernel_rfl) rfl (hS2.blk at2) rfl) ?_
     refine SeqK.q rfl (o_call rfl Tryz.func28 rfl rfl (NonceR_con (by omega))) ?_
     refine SeqK.q rfl (q_move (v := .tuple _) rfl) ?_
     rw [nonceP_ok hb2 (by omega)]
     refine SeqK.q rfl (q_extract (v := S _) rfl rfl) ?_
     refine SeqK.q rfl (q_extract (v := .int _ _) rfl rfl) ?_
     refine SeqK.q rfl (q_assign (v := S _) rfl) ?_
     refine SeqK.done ?_
     refine OpsW.q rfl (q_assign (v := .int _ _) rfl) ?_
     refine OpsW.nil ?_
     refine SeqP.go ?_
     refine AW.seq ?_
     refine AW.region ?_
     refine OpsW.q rfl (q_move (v := S _) rfl) ?_
     refine OpsW.q rfl (q_lenS Tryz.underlying9 rfl) ?_
     refine OpsW.q rfl (q_addI rfl rfl (by omega)) ?_
     refine OpsW.q rfl (o_call rfl Tryz.func30 rfl rfl (headR_con _ _ (by omega))) ?_
     rw [show headP 23 (((bxInner kind plain pad).length : Int) + 16) = bxHead kind plain pad from rfl]
     have hhl := bxHead_length kind plain pad
     refine OpsW.q rfl (q_assign (v := S _) rfl) ?_
     refine OpsW.nil ?_
     refine SeqP.go ?_
     refine AW.seq ?_
     refine AW.drawK [] 16 rfl (by kernel_rfl) ?_
     refine SeqK.q rfl (q_move (v := .pointer _) rfl) ?_
     refine SeqK.q rfl (q_nilCheck rfl) ?_
     refine SeqK.q rfl (q_fieldAddr (sz := 0) Tryz.underlying40 rfl (by kernel_rfl) rfl) ?_
     refine SeqK.q rfl (q_load (v := .int _ _) (by kernel_rfl) rfl (hS2.blk at2) rfl) ?_
     refine SeqK.q rfl (q_move (v := .pointer _) rfl) ?_
     refine SeqK.q rfl (q_nilCheck rfl) ?_
     refine SeqK.q rfl (q_fieldAddr (sz := 0) Tryz.underlying40 rfl (by kernel_rfl) rfl) ?_
     refine SeqK.q rfl (q_load (v := S _) (by kernel_rfl) rfl (hS2.blk at2) rfl) ?_
     refine SeqK.q rfl (q_move (v := S _) rfl) ?_
     refine SeqK.q rfl (q_move (v := S _) rfl) ?_
     refine SeqK.q rfl (q_move (v := S _) rfl) ?_
     refine SeqK.q rfl (o_call rfl Tryz.func8 rfl rfl (sSealR_con (by omega) (by omega))) ?_
     refine SeqK.q rfl (q_move (v := .tuple _) rfl) ?_
     rw [← hbs]
     refine SeqK.q rfl (q_extract (v := S _) rfl rfl) ?_
     refine SeqK.q rfl (q_extract (v := .int _ _) rfl rfl) ?_
     refine SeqK.q rfl (q_assign (v := S _) rfl) ?_
     refine SeqK.done ?_
     refine OpsW.q rfl (q_assign (v := .int _ _) rfl) ?_
     refine OpsW.nil ?_
     refine SeqP.go ?_
     refine AW.seq ?_
     refine AW.region ?_
     refine OpsW.q rfl (q_move (v := .pointer _) rfl) ?_
     refine OpsW.q rfl (q_move (v := .pointer _) rfl) ?_
     refine OpsW.q rfl (q_nilCheck rfl) ?_
     refine OpsW.q rfl (q_fieldAddr (sz := 0) Tryz.underlying40 rfl (by kernel_rfl) rfl) ?_
     refine OpsW.q rfl (q_load (v := .int _ _) (by kernel_rfl) rfl (hS2.blk at2) rfl) ?_
     refine OpsW.q rfl (q_addI rfl rfl (by omega)) ?_
     refine OpsW.q rfl (q_nilCheck rfl) ?_
     refine OpsW.q rfl (q_fieldAddr (sz := 0) Tryz.underlying40 rfl (by kernel_rfl) rfl) ?_
     refine OpsW.ms (s_storeC (v := .int _ _) hS2 at2 (by kernel_rfl) rfl rfl rfl (by simp; done)) ?_
     rintro _ H3 ⟨rfl, hS3⟩
     clear hS2
     refine OpsW.nil ?_
     refine SeqP.go ?_
     refine AW.seq ?_
     refine AW.region ?_
     refine OpsW.q rfl (q_move (v := S _) rfl) ?_
     refine OpsW.q rfl (q_move (v := S _) rfl) ?_
     refine OpsW.q rfl (q_cat rfl rfl (by omega)) ?_
     refine OpsW.q rfl (q_assign (v := S _) rfl) ?_
     refine OpsW.q rfl (q_assign (v := .int _ _) rfl) ?_
     refine OpsW.nil ?_
     refine SeqP.go ?_
     refine AW.ret ?_
     refine RetP.mk2 (H' := _) (v1 := S _) (v2 := .int _ _) rfl rfl rfl  (Hp.le_refl _) ?_
     rw [e1, e2]
     exact ⟨rfl, hS3.tail.tail⟩
    ·
     rintro v49 H4 hS4
     clear hS1
     refine AnyW.two 5 8 rfl rfl (by kernel_rfl) rfl rfl (dst_lt rfl) (dst_lt rfl) (q_cat rfl rfl (by simp only [nums_length, List.length_set, List.length_replicate, List.length_take, List.length_drop, List.length_append, List.length_cons, List.length_nil, ofB_length, toB_length]; omega)) (q_stringVec (hS4.vec at0) Tryz.underlying35 Tryz.underlying5 Tryz.underlying9 rfl) ?_ ?_
     ·
      rintro _ _ ⟨rfl, rfl⟩
      refine AnyW.onlyQ 8 rfl (by kernel_rfl) rfl (dst_lt rfl) (q_stringVec (hS4.vec at0) Tryz.underlying35 Tryz.underlying5 Tryz.underlying9 rfl) ?_
      refine AnyW.onlyQ 9 rfl (by kernel_rfl) rfl (dst_lt rfl) (q_cat rfl rfl (by simp only [nums_length, List.length_set, List.length_replicate, List.length_take, List.length_drop, List.length_append, List.length_cons, List.length_nil, ofB_length, toB_length]; omega)) ?_
      rw [show plain ++ toB [IntKind.u8.wrap kind] ++ toB (List.replicate pad.toNat 0) = bxInner kind plain pad from by rw [show toB (List.replicate pad.toNat 0) = List.replicate pad.toNat 0 from by simp [toB]]; rfl]
      refine AnyW.onlyQ 10 rfl (by kernel_rfl) rfl (dst_lt rfl) (q_assign (v := S _) rfl) ?_
      refine AnyW.done (by kernel_rfl) ?_
      refine SeqP.go ?_
      refine AW.seq ?_
      refine AW.drawK [] 13 rfl (by kernel_rfl) ?_
      refine SeqK.q rfl (q_move (v := .pointer _) rfl) ?_
      refine SeqK.q rfl (q_nilCheck rfl) ?_
      refine SeqK.q rfl (q_fieldAddr (sz := 0) Tryz.underlying40 rfl (by kernel_rfl) rfl) ?_
      refine SeqK.q rfl (q_load (v := S _) (by kernel_rfl) rfl (hS4.blk at2) rfl) ?_
      refine SeqK.q rfl (q_move (v := .pointer _) rfl) ?_
      refine SeqK.q rfl (q_nilCheck rfl) ?_
      refine SeqK.q rfl (q_fieldAddr (sz := 0) Tryz.underlying40 rfl (by kernel_rfl) rfl) ?_
      refine SeqK.q rfl (q_load (v := .int _ _) (by kernel_rfl) rfl (hS4.blk at2) rfl) ?_
      refine SeqK.q rfl (o_call rfl Tryz.func28 rfl rfl (NonceR_con (by omega))) ?_
      refine SeqK.q rfl (q_move (v := .tuple _) rfl) ?_
      rw [nonceP_ok hb2 (by omega)]
      refine SeqK.q rfl (q_extract (v := S _) rfl rfl) ?_
      refine SeqK.q rfl (q_extract (v := .int _ _) rfl rfl) ?_
      refine SeqK.q rfl (q_assign (v := S _) rfl) ?_
      refine SeqK.done ?_
      refine OpsW.q rfl (q_assign (v := .int _ _) rfl) ?_
      refine OpsW.nil ?_
      refine SeqP.go ?_
      refine AW.seq ?_
      refine AW.region ?_
      refine OpsW.q rfl (q_move (v := S _) rfl) ?_
      refine OpsW.q rfl (q_lenS Tryz.underlying9 rfl) ?_
      refine OpsW.q rfl (q_addI rfl rfl (by omega)) ?_
      refine OpsW.q rfl (o_call rfl Tryz.func30 rfl rfl (headR_con _ _ (by omega))) ?_
      rw [show headP 23 (((bxInner kind plain pad).length : Int) + 16) = bxHead kind plain pad from rfl]
      have hhl := bxHead_length kind plain pad
      refine OpsW.q rfl (q_assign (v := S _) rfl) ?_
      refine OpsW.nil ?_
      refine SeqP.go ?_
      refine AW.seq ?_
      refine AW.drawK [] 16 rfl (by kernel_rfl) ?_
      refine SeqK.q rfl (q_move (v := .pointer _) rfl) ?_
      refine SeqK.q rfl (q_nilCheck rfl) ?_
      refine SeqK.q rfl (q_fieldAddr (sz := 0) Tryz.underlying40 rfl (by kernel_rfl) rfl) ?_
      refine SeqK.q rfl (q_load (v := .int _ _) (by kernel_rfl) rfl (hS4.blk at2) rfl) ?_
      refine SeqK.q rfl (q_move (v := .pointer _) rfl) ?_
      refine SeqK.q rfl (q_nilCheck rfl) ?_
      refine SeqK.q rfl (q_fieldAddr (sz := 0) Tryz.underlying40 rfl (by kernel_rfl) rfl) ?_
      refine SeqK.q rfl (q_load (v := S _) (by kernel_rfl) rfl (hS4.blk at2) rfl) ?_
      refine SeqK.q rfl (q_move (v := S _) rfl) ?_
      refine SeqK.q rfl (q_move (v := S _) rfl) ?_
      refine SeqK.q rfl (q_move (v := S _) rfl) ?_
      refine SeqK.q rfl (o_call rfl Tryz.func8 rfl rfl (sSealR_con (by omega) (by omega))) ?_
      refine SeqK.q rfl (q_move (v := .tuple _) rfl) ?_
      rw [← hbs]
      refine SeqK.q rfl (q_extract (v := S _) rfl rfl) ?_
      refine SeqK.q rfl (q_extract (v := .int _ _) rfl rfl) ?_
      refine SeqK.q rfl (q_assign (v := S _) rfl) ?_
      refine SeqK.done ?_
      refine OpsW.q rfl (q_assign (v := .int _ _) rfl) ?_
      refine OpsW.nil ?_
      refine SeqP.go ?_
      refine AW.seq ?_
      refine AW.region ?_
      refine OpsW.q rfl (q_move (v := .pointer _) rfl) ?_
      refine OpsW.q rfl (q_move (v := .pointer _) rfl) ?_
      refine OpsW.q rfl (q_nilCheck rfl) ?_
      refine OpsW.q rfl (q_fieldAddr (sz := 0) Tryz.underlying40 rfl (by kernel_rfl) rfl) ?_
      refine OpsW.q rfl (q_load (v := .int _ _) (by kernel_rfl) rfl (hS4.blk at2) rfl) ?_
      refine OpsW.q rfl (q_addI rfl rfl (by omega)) ?_
      refine OpsW.q rfl (q_nilCheck rfl) ?_
      refine OpsW.q rfl (q_fieldAddr (sz := 0) Tryz.underlying40 rfl (by kernel_rfl) rfl) ?_
      refine OpsW.ms (s_storeC (v := .int _ _) hS4 at2 (by kernel_rfl) rfl rfl rfl (by simp; done)) ?_
      rintro _ H5 ⟨rfl, hS5⟩
      clear hS4
      refine OpsW.nil ?_
      refine SeqP.go ?_
      refine AW.seq ?_
      refine AW.region ?_
      refine OpsW.q rfl (q_move (v := S _) rfl) ?_
      refine OpsW.q rfl (q_move (v := S _) rfl) ?_
      refine OpsW.q rfl (q_cat rfl rfl (by omega)) ?_
      refine OpsW.q rfl (q_assign (v := S _) rfl) ?_
      refine OpsW.q rfl (q_assign (v := .int _ _) rfl) ?_
      refine OpsW.nil ?_
      refine SeqP.go ?_
      refine AW.ret ?_
      refine RetP.mk2 (H' := _) (v1 := S _) (v2 := .int _ _) rfl rfl rfl  (Hp.le_refl _) ?_
      rw [e1, e2]
      exact ⟨rfl, hS5.tail.tail⟩
     ·
      rintro _ _ ⟨rfl, rfl⟩
      refine AnyW.onlyQ 5 rfl (by kernel_rfl) rfl (dst_lt rfl) (q_cat rfl rfl (by simp only [nums_length, List.length_set, List.length_replicate, List.length_take, List.length_drop, List.length_append, List.length_cons, List.length_nil, ofB_length, toB_length]; omega)) ?_
      refine AnyW.onlyQ 9 rfl (by kernel_rfl) rfl (dst_lt rfl) (q_cat rfl rfl (by simp only [nums_length, List.length_set, List.length_replicate, List.length_take, List.length_drop, List.length_append, List.length_cons, List.length_nil, ofB_length, toB_length]; omega)) ?_
      rw [show plain ++ toB [IntKind.u8.wrap kind] ++ toB (List.replicate pad.toNat 0) = bxInner kind plain pad from by rw [show toB (List.replicate pad.toNat 0) = List.replicate pad.toNat 0 from by simp [toB]]; rfl]
      refine AnyW.onlyQ 10 rfl (by kernel_rfl) rfl (dst_lt rfl) (q_assign (v := S _) rfl) ?_
      refine AnyW.done (by kernel_rfl) ?_
      refine SeqP.go ?_
      refine AW.seq ?_
      refine AW.drawK [] 13 rfl (by kernel_rfl) ?_
      refine SeqK.q rfl (q_move (v := .pointer _) rfl) ?_
      refine SeqK.q rfl (q_nilCheck rfl) ?_
      refine SeqK.q rfl (q_fieldAddr (sz := 0) Tryz.underlying40 rfl (by kernel_rfl) rfl) ?_
      refine SeqK.q rfl (q_load (v := S _) (by kernel_rfl) rfl (hS4.blk at2) rfl) ?_
      refine SeqK.q rfl (q_move (v := .pointer _) rfl) ?_
      refine SeqK.q rfl (q_nilCheck rfl) ?_
      refine SeqK.q rfl (q_fieldAddr (sz := 0) Tryz.underlying40 rfl (by kernel_rfl) rfl) ?_
      refine SeqK.q rfl (q_load (v := .int _ _) (by kernel_rfl) rfl (hS4.blk at2) rfl) ?_
      refine SeqK.q rfl (o_call rfl Tryz.func28 rfl rfl (NonceR_con (by omega))) ?_
      refine SeqK.q rfl (q_move (v := .tuple _) rfl) ?_
      rw [nonceP_ok hb2 (by omega)]
      refine SeqK.q rfl (q_extract (v := S _) rfl rfl) ?_
      refine SeqK.q rfl (q_extract (v := .int _ _) rfl rfl) ?_
      refine SeqK.q rfl (q_assign (v := S _) rfl) ?_
      refine SeqK.done ?_
      refine OpsW.q rfl (q_assign (v := .int _ _) rfl) ?_
      refine OpsW.nil ?_
      refine SeqP.go ?_
      refine AW.seq ?_
      refine AW.region ?_
      refine OpsW.q rfl (q_move (v := S _) rfl) ?_
      refine OpsW.q rfl (q_lenS Tryz.underlying9 rfl) ?_
      refine OpsW.q rfl (q_addI rfl rfl (by omega)) ?_
      refine OpsW.q rfl (o_call rfl Tryz.func30 rfl rfl (headR_con _ _ (by omega))) ?_
      rw [show headP 23 (((bxInner kind plain pad).length : Int) + 16) = bxHead kind plain pad from rfl]
      have hhl := bxHead_length kind plain pad
      refine OpsW.q rfl (q_assign (v := S _) rfl) ?_
      refine OpsW.nil ?_
      refine SeqP.go ?_
      refine AW.seq ?_
      refine AW.drawK [] 16 rfl (by kernel_rfl) ?_
      refine SeqK.q rfl (q_move (v := .pointer _) rfl) ?_
      refine SeqK.q rfl (q_nilCheck rfl) ?_
      refine SeqK.q rfl (q_fieldAddr (sz := 0) Tryz.underlying40 rfl (by kernel_rfl) rfl) ?_
      refine SeqK.q rfl (q_load (v := .int _ _) (by kernel_rfl) rfl (hS4.blk at2) rfl) ?_
      refine SeqK.q rfl (q_move (v := .pointer _) rfl) ?_
      refine SeqK.q rfl (q_nilCheck rfl) ?_
      refine SeqK.q rfl (q_fieldAddr (sz := 0) Tryz.underlying40 rfl (by kernel_rfl) rfl) ?_
      refine SeqK.q rfl (q_load (v := S _) (by kernel_rfl) rfl (hS4.blk at2) rfl) ?_
      refine SeqK.q rfl (q_move (v := S _) rfl) ?_
      refine SeqK.q rfl (q_move (v := S _) rfl) ?_
      refine SeqK.q rfl (q_move (v := S _) rfl) ?_
      refine SeqK.q rfl (o_call rfl Tryz.func8 rfl rfl (sSealR_con (by omega) (by omega))) ?_
      refine SeqK.q rfl (q_move (v := .tuple _) rfl) ?_
      rw [← hbs]
      refine SeqK.q rfl (q_extract (v := S _) rfl rfl) ?_
      refine SeqK.q rfl (q_extract (v := .int _ _) rfl rfl) ?_
      refine SeqK.q rfl (q_assign (v := S _) rfl) ?_
      refine SeqK.done ?_
      refine OpsW.q rfl (q_assign (v := .int _ _) rfl) ?_
      refine OpsW.nil ?_
      refine SeqP.go ?_
      refine AW.seq ?_
      refine AW.region ?_
      refine OpsW.q rfl (q_move (v := .pointer _) rfl) ?_
      refine OpsW.q rfl (q_move (v := .pointer _) rfl) ?_
      refine OpsW.q rfl (q_nilCheck rfl) ?_
      refine OpsW.q rfl (q_fieldAddr (sz := 0) Tryz.underlying40 rfl (by kernel_rfl) rfl) ?_
      refine OpsW.q rfl (q_load (v := .int _ _) (by kernel_rfl) rfl (hS4.blk at2) rfl) ?_
      refine OpsW.q rfl (q_addI rfl rfl (by omega)) ?_
      refine OpsW.q rfl (q_nilCheck rfl) ?_
      refine OpsW.q rfl (q_fieldAddr (sz := 0) Tryz.underlying40 rfl (by kernel_rfl) rfl) ?_
      refine OpsW.ms (s_storeC (v := .int _ _) hS4 at2 (by kernel_rfl) rfl rfl rfl (by simp; done)) ?_
      rintro _ H6 ⟨rfl, hS6⟩
      clear hS4
      refine OpsW.nil ?_
      refine SeqP.go ?_
      refine AW.seq ?_
      refine AW.region ?_
      refine OpsW.q rfl (q_move (v := S _) rfl) ?_
      refine OpsW.q rfl (q_move (v := S _) rfl) ?_
      refine OpsW.q rfl (q_cat rfl rfl (by omega)) ?_
      refine OpsW.q rfl (q_assign (v := S _) rfl) ?_
      refine OpsW.q rfl (q_assign (v := .int _ _) rfl) ?_
      refine OpsW.nil ?_
      refine SeqP.go ?_
      refine AW.ret ?_
      refine RetP.mk2 (H' := _) (v1 := S _) (v2 := .int _ _) rfl rfl rfl  (Hp.le_refl _) ?_
      rw [e1, e2]
      exact ⟨rfl, hS6.tail.tail⟩
   ·
    rintro v49 H7 hS7
    clear hS1
    refine AnyW.two 4 8 rfl rfl (by kernel_rfl) rfl rfl (dst_lt rfl) (dst_lt rfl) (q_stringVec (hS7.vec at1) Tryz.underlying35 Tryz.underlying5 Tryz.underlying9 rfl) (q_stringVec (hS7.vec at0) Tryz.underlying35 Tryz.underlying5 Tryz.underlying9 rfl) ?_ ?_
    ·
     rintro _ _ ⟨rfl, rfl⟩
     refine AnyW.two 5 8 rfl rfl (by kernel_rfl) rfl rfl (dst_lt rfl) (dst_lt rfl) (q_cat rfl rfl (by simp only [nums_length, List.length_set, List.length_replicate, List.length_take, List.length_drop, List.length_append, List.length_cons, List.length_nil, ofB_length, toB_length]; omega)) (q_stringVec (hS7.vec at0) Tryz.underlying35 Tryz.underlying5 Tryz.underlying9 rfl) ?_ ?_
     ·
      rintro _ _ ⟨rfl, rfl⟩
      refine AnyW.onlyQ 8 rfl (by kernel_rfl) rfl (dst_lt rfl) (q_stringVec (hS7.vec at0) Tryz.underlying35 Tryz.underlying5 Tryz.underlying9 rfl) ?_
      refine AnyW.onlyQ 9 rfl (by kernel_rfl) rfl (dst_lt rfl) (q_cat rfl rfl (by simp only [nums_length, List.length_set, List.length_replicate, List.length_take, List.length_drop, List.length_append, List.length_cons, List.length_nil, ofB_length, toB_length]; omega)) ?_
      rw [show plain ++ toB [IntKind.u8.wrap kind] ++ toB (List.replicate pad.toNat 0) = bxInner kind plain pad from by rw [show toB (List.replicate pad.toNat 0) = List.replicate pad.toNat 0 from by simp [toB]]; rfl]
      refine AnyW.onlyQ 10 rfl (by kernel_rfl) rfl (dst_lt rfl) (q_assign (v := S _) rfl) ?_
      refine AnyW.done (by kernel_rfl) ?_
      refine SeqP.go ?_
      refine AW.seq ?_
      refine AW.drawK [] 13 rfl (by kernel_rfl) ?_
      refine SeqK.q rfl (q_move (v := .pointer _) rfl) ?_
      refine SeqK.q rfl (q_nilCheck rfl) ?_
      refine SeqK.q rfl (q_fieldAddr (sz := 0) Tryz.underlying40 rfl (by kernel_rfl) rfl) ?_
      refine SeqK.q rfl (q_load (v := S _) (by kernel_rfl) rfl (hS7.blk at2) rfl) ?_
      refine SeqK.q rfl (q_move (v := .pointer _) rfl) ?_
      refine SeqK.q rfl (q_nilCheck rfl) ?_
      refine SeqK.q rfl (q_fieldAddr (sz := 0) Tryz.underlying40 rfl (by kernel_rfl) rfl) ?_
      refine SeqK.q rfl (q_load (v := .int _ _) (by kernel_rfl) rfl (hS7.blk at2) rfl) ?_
      refine SeqK.q rfl (o_call rfl Tryz.func28 rfl rfl (NonceR_con (by omega))) ?_
      refine SeqK.q rfl (q_move (v := .tuple _) rfl) ?_
      rw [nonceP_ok hb2 (by omega)]
      refine SeqK.q rfl (q_extract (v := S _) rfl rfl) ?_
      refine SeqK.q rfl (q_extract (v := .int _ _) rfl rfl) ?_
      refine SeqK.q rfl (q_assign (v := S _) rfl) ?_
      refine SeqK.done ?_
      refine OpsW.q rfl (q_assign (v := .int _ _) rfl) ?_
      refine OpsW.nil ?_
      refine SeqP.go ?_
      refine AW.seq ?_
      refine AW.region ?_
      refine OpsW.q rfl (q_move (v := S _) rfl) ?_
      refine OpsW.q rfl (q_lenS Tryz.underlying9 rfl) ?_
      refine OpsW.q rfl (q_addI rfl rfl (by omega)) ?_
      refine OpsW.q rfl (o_call rfl Tryz.func30 rfl rfl (headR_con _ _ (by omega))) ?_
      rw [show headP 23 (((bxInner kind plain pad).length : Int) + 16) = bxHead kind plain pad from rfl]
      have hhl := bxHead_length kind plain pad
      refine OpsW.q rfl (q_assign (v := S _) rfl) ?_
      refine OpsW.nil ?_
      refine SeqP.go ?_
      refine AW.seq ?_
      refine AW.drawK [] 16 rfl (by kernel_rfl) ?_
      refine SeqK.q rfl (q_move (v := .pointer _) rfl) ?_
      refine SeqK.q rfl (q_nilCheck rfl) ?_
      refine SeqK.q rfl (q_fieldAddr (sz := 0) Tryz.underlying40 rfl (by kernel_rfl) rfl) ?_
      refine SeqK.q rfl (q_load (v := .int _ _) (by kernel_rfl) rfl (hS7.blk at2) rfl) ?_
      refine SeqK.q rfl (q_move (v := .pointer _) rfl) ?_
      refine SeqK.q rfl (q_nilCheck rfl) ?_
      refine SeqK.q rfl (q_fieldAddr (sz := 0) Tryz.underlying40 rfl (by kernel_rfl) rfl) ?_
      refine SeqK.q rfl (q_load (v := S _) (by kernel_rfl) rfl (hS7.blk at2) rfl) ?_
      refine SeqK.q rfl (q_move (v := S _) rfl) ?_
      refine SeqK.q rfl (q_move (v := S _) rfl) ?_
      refine SeqK.q rfl (q_move (v := S _) rfl) ?_
      refine SeqK.q rfl (o_call rfl Tryz.func8 rfl rfl (sSealR_con (by omega) (by omega))) ?_
      refine SeqK.q rfl (q_move (v := .tuple _) rfl) ?_
      rw [← hbs]
      refine SeqK.q rfl (q_extract (v := S _) rfl rfl) ?_
      refine SeqK.q rfl (q_extract (v := .int _ _) rfl rfl) ?_
      refine SeqK.q rfl (q_assign (v := S _) rfl) ?_
      refine SeqK.done ?_
      refine OpsW.q rfl (q_assign (v := .int _ _) rfl) ?_
      refine OpsW.nil ?_
      refine SeqP.go ?_
      refine AW.seq ?_
      refine AW.region ?_
      refine OpsW.q rfl (q_move (v := .pointer _) rfl) ?_
      refine OpsW.q rfl (q_move (v := .pointer _) rfl) ?_
      refine OpsW.q rfl (q_nilCheck rfl) ?_
      refine OpsW.q rfl (q_fieldAddr (sz := 0) Tryz.underlying40 rfl (by kernel_rfl) rfl) ?_
      refine OpsW.q rfl (q_load (v := .int _ _) (by kernel_rfl) rfl (hS7.blk at2) rfl) ?_
      refine OpsW.q rfl (q_addI rfl rfl (by omega)) ?_
      refine OpsW.q rfl (q_nilCheck rfl) ?_
      refine OpsW.q rfl (q_fieldAddr (sz := 0) Tryz.underlying40 rfl (by kernel_rfl) rfl) ?_
      refine OpsW.ms (s_storeC (v := .int _ _) hS7 at2 (by kernel_rfl) rfl rfl rfl (by simp; done)) ?_
      rintro _ H8 ⟨rfl, hS8⟩
      clear hS7
      refine OpsW.nil ?_
      refine SeqP.go ?_
      refine AW.seq ?_
      refine AW.region ?_
      refine OpsW.q rfl (q_move (v := S _) rfl) ?_
      refine OpsW.q rfl (q_move (v := S _) rfl) ?_
      refine OpsW.q rfl (q_cat rfl rfl (by omega)) ?_
      refine OpsW.q rfl (q_assign (v := S _) rfl) ?_
      refine OpsW.q rfl (q_assign (v := .int _ _) rfl) ?_
      refine OpsW.nil ?_
      refine SeqP.go ?_
      refine AW.ret ?_
      refine RetP.mk2 (H' := _) (v1 := S _) (v2 := .int _ _) rfl rfl rfl  (Hp.le_refl _) ?_
      rw [e1, e2]
      exact ⟨rfl, hS8.tail.tail⟩
     ·
      rintro _ _ ⟨rfl, rfl⟩
      refine AnyW.onlyQ 5 rfl (by kernel_rfl) rfl (dst_lt rfl) (q_cat rfl rfl (by simp only [nums_length, List.length_set, List.length_replicate, List.length_take, List.length_drop, List.length_append, List.length_cons, List.length_nil, ofB_length, toB_length]; omega)) ?_
      refine AnyW.onlyQ 9 rfl (by kernel_rfl) rfl (dst_lt rfl) (q_cat rfl rfl (by simp only [nums_length, List.length_set, List.length_replicate, List.length_take, List.length_drop, List.length_append, List.length_cons, List.length_nil, ofB_length, toB_length]; omega)) ?_
      rw [show plain ++ toB [IntKind.u8.wrap kind] ++ toB (List.replicate pad.toNat 0) = bxInner kind plain pad from by rw [show toB (List.replicate pad.toNat 0) = List.replicate pad.toNat 0 from by simp [toB]]; rfl]
      refine AnyW.onlyQ 10 rfl (by kernel_rfl) rfl (dst_lt rfl) (q_assign (v := S _) rfl) ?_
      refine AnyW.done (by kernel_rfl) ?_
      refine SeqP.go ?_
      refine AW.seq ?_
      refine AW.drawK [] 13 rfl (by kernel_rfl) ?_
      refine SeqK.q rfl (q_move (v := .pointer _) rfl) ?_
      refine SeqK.q rfl (q_nilCheck rfl) ?_
      refine SeqK.q rfl (q_fieldAddr (sz := 0) Tryz.underlying40 rfl (by kernel_rfl) rfl) ?_
      refine SeqK.q rfl (q_load (v := S _) (by kernel_rfl) rfl (hS7.blk at2) rfl) ?_
      refine SeqK.q rfl (q_move (v := .pointer _) rfl) ?_
      refine SeqK.q rfl (q_nilCheck rfl) ?_
      refine SeqK.q rfl (q_fieldAddr (sz := 0) Tryz.underlying40 rfl (by kernel_rfl) rfl) ?_
      refine SeqK.q rfl (q_load (v := .int _ _) (by kernel_rfl) rfl (hS7.blk at2) rfl) ?_
      refine SeqK.q rfl (o_call rfl Tryz.func28 rfl rfl (NonceR_con (by omega))) ?_
      refine SeqK.q rfl (q_move (v := .tuple _) rfl) ?_
      rw [nonceP_ok hb2 (by omega)]
      refine SeqK.q rfl (q_extract (v := S _) rfl rfl) ?_
      refine SeqK.q rfl (q_extract (v := .int _ _) rfl rfl) ?_
      refine SeqK.q rfl (q_assign (v := S _) rfl) ?_
      refine SeqK.done ?_
      refine OpsW.q rfl (q_assign (v := .int _ _) rfl) ?_
      refine OpsW.nil ?_
      refine SeqP.go ?_
      refine AW.seq ?_
      refine AW.region ?_
      refine OpsW.q rfl (q_move (v := S _) rfl) ?_
      refine OpsW.q rfl (q_lenS Tryz.underlying9 rfl) ?_
      refine OpsW.q rfl (q_addI rfl rfl (by omega)) ?_
      refine OpsW.q rfl (o_call rfl Tryz.func30 rfl rfl (headR_con _ _ (by omega))) ?_
      rw [show headP 23 (((bxInner kind plain pad).length : Int) + 16) = bxHead kind plain pad from rfl]
      have hhl := bxHead_length kind plain pad
      refine OpsW.q rfl (q_assign (v := S _) rfl) ?_
      refine OpsW.nil ?_
      refine SeqP.go ?_
      refine AW.seq ?_
      refine AW.drawK [] 16 rfl (by kernel_rfl) ?_
      refine SeqK.q rfl (q_move (v := .pointer _) rfl) ?_
      refine SeqK.q rfl (q_nilCheck rfl) ?_
      refine SeqK.q rfl (q_fieldAddr (sz := 0) Tryz.underlying40 rfl (by kernel_rfl) rfl) ?_
      refine SeqK.q rfl (q_load (v := .int _ _) (by kernel_rfl) rfl (hS7.blk at2) rfl) ?_
      refine SeqK.q rfl (q_move (v := .pointer _) rfl) ?_
      refine SeqK.q rfl (q_nilCheck rfl) ?_
      refine SeqK.q rfl (q_fieldAddr (sz := 0) Tryz.underlying40 rfl (by kernel_rfl) rfl) ?_
      refine SeqK.q rfl (q_load (v := S _) (by kernel_rfl) rfl (hS7.blk at2) rfl) ?_
      refine SeqK.q rfl (q_move (v := S _) rfl) ?_
      refine SeqK.q rfl (q_move (v := S _) rfl) ?_
      refine SeqK.q rfl (q_move (v := S _) rfl) ?_
      refine SeqK.q rfl (o_call rfl Tryz.func8 rfl rfl (sSealR_con (by omega) (by omega))) ?_
      refine SeqK.q rfl (q_move (v := .tuple _) rfl) ?_
      rw [← hbs]
      refine SeqK.q rfl (q_extract (v := S _) rfl rfl) ?_
      refine SeqK.q rfl (q_extract (v := .int _ _) rfl rfl) ?_
      refine SeqK.q rfl (q_assign (v := S _) rfl) ?_
      refine SeqK.done ?_
      refine OpsW.q rfl (q_assign (v := .int _ _) rfl) ?_
      refine OpsW.nil ?_
      refine SeqP.go ?_
      refine AW.seq ?_
      refine AW.region ?_
      refine OpsW.q rfl (q_move (v := .pointer _) rfl) ?_
      refine OpsW.q rfl (q_move (v := .pointer _) rfl) ?_
      refine OpsW.q rfl (q_nilCheck rfl) ?_
      refine OpsW.q rfl (q_fieldAddr (sz := 0) Tryz.underlying40 rfl (by kernel_rfl) rfl) ?_
      refine OpsW.q rfl (q_load (v := .int _ _) (by kernel_rfl) rfl (hS7.blk at2) rfl) ?_
      refine OpsW.q rfl (q_addI rfl rfl (by omega)) ?_
      refine OpsW.q rfl (q_nilCheck rfl) ?_
      refine OpsW.q rfl (q_fieldAddr (sz := 0) Tryz.underlying40 rfl (by kernel_rfl) rfl) ?_
      refine OpsW.ms (s_storeC (v := .int _ _) hS7 at2 (by kernel_rfl) rfl rfl rfl (by simp; done)) ?_
      rintro _ H9 ⟨rfl, hS9⟩
      clear hS7
      refine OpsW.nil ?_
      refine SeqP.go ?_
      refine AW.seq ?_
      refine AW.region ?_
      refine OpsW.q rfl (q_move (v := S _) rfl) ?_
      refine OpsW.q rfl (q_move (v := S _) rfl) ?_
      refine OpsW.q rfl (q_cat rfl rfl (by omega)) ?_
      refine OpsW.q rfl (q_assign (v := S _) rfl) ?_
      refine OpsW.q rfl (q_assign (v := .int _ _) rfl) ?_
      refine OpsW.nil ?_
      refine SeqP.go ?_
      refine AW.ret ?_
      refine RetP.mk2 (H' := _) (v1 := S _) (v2 := .int _ _) rfl rfl rfl  (Hp.le_refl _) ?_
      rw [e1, e2]
      exact ⟨rfl, hS9.tail.tail⟩
    ·
     rintro _ _ ⟨rfl, rfl⟩
     refine AnyW.onlyQ 4 rfl (by kernel_rfl) rfl (dst_lt rfl) (q_stringVec (hS7.vec at1) Tryz.underlying35 Tryz.underlying5 Tryz.underlying9 rfl) ?_
     refine AnyW.onlyQ 5 rfl (by kernel_rfl) rfl (dst_lt rfl) (q_cat rfl rfl (by simp only [nums_length, List.length_set, List.length_replicate, List.length_take, List.length_drop, List.length_append, List.length_cons, List.length_nil, ofB_length, toB_length]; omega)) ?_
     refine AnyW.onlyQ 9 rfl (by kernel_rfl) rfl (dst_lt rfl) (q_cat rfl rfl (by simp only [nums_length, List.length_set, List.length_replicate, List.length_take, List.length_drop, List.length_append, List.length_cons, List.length_nil, ofB_length, toB_length]; omega)) ?_
     rw [show plain ++ toB [IntKind.u8.wrap kind] ++ toB (List.replicate pad.toNat 0) = bxInner kind plain pad from by rw [show toB (List.replicate pad.toNat 0) = List.replicate pad.toNat 0 from by simp [toB]]; rfl]
     refine AnyW.onlyQ 10 rfl (by kernel_rfl) rfl (dst_lt rfl) (q_assign (v := S _) rfl) ?_
     refine AnyW.done (by kernel_rfl) ?_
     refine SeqP.go ?_
     refine AW.seq ?_
     refine AW.drawK [] 13 rfl (by kernel_rfl) ?_
     refine SeqK.q rfl (q_move (v := .pointer _) rfl) ?_
     refine SeqK.q rfl (q_nilCheck rfl) ?_
     refine SeqK.q rfl (q_fieldAddr (sz := 0) Tryz.underlying40 rfl (by kernel_rfl) rfl) ?_
     refine SeqK.q rfl (q_load (v := S _) (by kernel_rfl) rfl (hS7.blk at2) rfl) ?_
     refine SeqK.q rfl (q_move (v := .pointer _) rfl) ?_
     refine SeqK.q rfl (q_nilCheck rfl) ?_
     refine SeqK.q rfl (q_fieldAddr (sz := 0) Tryz.underlying40 rfl (by kernel_rfl) rfl) ?_
     refine SeqK.q rfl (q_load (v := .int _ _) (by kernel_rfl) rfl (hS7.blk at2) rfl) ?_
     refine SeqK.q rfl (o_call rfl Tryz.func28 rfl rfl (NonceR_con (by omega))) ?_
     refine SeqK.q rfl (q_move (v := .tuple _) rfl) ?_
     rw [nonceP_ok hb2 (by omega)]
     refine SeqK.q rfl (q_extract (v := S _) rfl rfl) ?_
     refine SeqK.q rfl (q_extract (v := .int _ _) rfl rfl) ?_
     refine SeqK.q rfl (q_assign (v := S _) rfl) ?_
     refine SeqK.done ?_
     refine OpsW.q rfl (q_assign (v := .int _ _) rfl) ?_
     refine OpsW.nil ?_
     refine SeqP.go ?_
     refine AW.seq ?_
     refine AW.region ?_
     refine OpsW.q rfl (q_move (v := S _) rfl) ?_
     refine OpsW.q rfl (q_lenS Tryz.underlying9 rfl) ?_
     refine OpsW.q rfl (q_addI rfl rfl (by omega)) ?_
     refine OpsW.q rfl (o_call rfl Tryz.func30 rfl rfl (headR_con _ _ (by omega))) ?_
     rw [show headP 23 (((bxInner kind plain pad).length : Int) + 16) = bxHead kind plain pad from rfl]
     have hhl := bxHead_length kind plain pad
     refine OpsW.q rfl (q_assign (v := S _) rfl) ?_
     refine OpsW.nil ?_
     refine SeqP.go ?_
     refine AW.seq ?_
     refine AW.drawK [] 16 rfl (by kernel_rfl) ?_
     refine SeqK.q rfl (q_move (v := .pointer _) rfl) ?_
     refine SeqK.q rfl (q_nilCheck rfl) ?_
     refine SeqK.q rfl (q_fieldAddr (sz := 0) Tryz.underlying40 rfl (by kernel_rfl) rfl) ?_
     refine SeqK.q rfl (q_load (v := .int _ _) (by kernel_rfl) rfl (hS7.blk at2) rfl) ?_
     refine SeqK.q rfl (q_move (v := .pointer _) rfl) ?_
     refine SeqK.q rfl (q_nilCheck rfl) ?_
     refine SeqK.q rfl (q_fieldAddr (sz := 0) Tryz.underlying40 rfl (by kernel_rfl) rfl) ?_
     refine SeqK.q rfl (q_load (v := S _) (by kernel_rfl) rfl (hS7.blk at2) rfl) ?_
     refine SeqK.q rfl (q_move (v := S _) rfl) ?_
     refine SeqK.q rfl (q_move (v := S _) rfl) ?_
     refine SeqK.q rfl (q_move (v := S _) rfl) ?_
     refine SeqK.q rfl (o_call rfl Tryz.func8 rfl rfl (sSealR_con (by omega) (by omega))) ?_
     refine SeqK.q rfl (q_move (v := .tuple _) rfl) ?_
     rw [← hbs]
     refine SeqK.q rfl (q_extract (v := S _) rfl rfl) ?_
     refine SeqK.q rfl (q_extract (v := .int _ _) rfl rfl) ?_
     refine SeqK.q rfl (q_assign (v := S _) rfl) ?_
     refine SeqK.done ?_
     refine OpsW.q rfl (q_assign (v := .int _ _) rfl) ?_
     refine OpsW.nil ?_
     refine SeqP.go ?_
     refine AW.seq ?_
     refine AW.region ?_
     refine OpsW.q rfl (q_move (v := .pointer _) rfl) ?_
     refine OpsW.q rfl (q_move (v := .pointer _) rfl) ?_
     refine OpsW.q rfl (q_nilCheck rfl) ?_
     refine OpsW.q rfl (q_fieldAddr (sz := 0) Tryz.underlying40 rfl (by kernel_rfl) rfl) ?_
     refine OpsW.q rfl (q_load (v := .int _ _) (by kernel_rfl) rfl (hS7.blk at2) rfl) ?_
     refine OpsW.q rfl (q_addI rfl rfl (by omega)) ?_
     refine OpsW.q rfl (q_nilCheck rfl) ?_
     refine OpsW.q rfl (q_fieldAddr (sz := 0) Tryz.underlying40 rfl (by kernel_rfl) rfl) ?_
     refine OpsW.ms (s_storeC (v := .int _ _) hS7 at2 (by kernel_rfl) rfl rfl rfl (by simp; done)) ?_
     rintro _ H10 ⟨rfl, hS10⟩
     clear hS7
     refine OpsW.nil ?_
     refine SeqP.go ?_
     refine AW.seq ?_
     refine AW.region ?_
     refine OpsW.q rfl (q_move (v := S _) rfl) ?_
     refine OpsW.q rfl (q_move (v := S _) rfl) ?_
     refine OpsW.q rfl (q_cat rfl rfl (by omega)) ?_
     refine OpsW.q rfl (q_assign (v := S _) rfl) ?_
     refine OpsW.q rfl (q_assign (v := .int _ _) rfl) ?_
     refine OpsW.nil ?_
     refine SeqP.go ?_
     refine AW.ret ?_
     refine RetP.mk2 (H' := _) (v1 := S _) (v2 := .int _ _) rfl rfl rfl  (Hp.le_refl _) ?_
     rw [e1, e2]
     exact ⟨rfl, hS10.tail.tail⟩
  ·
   rintro v49 H11 hS11
   clear hS0
   refine AnyW.two 3 8 rfl rfl (by kernel_rfl) rfl rfl (dst_lt rfl) (dst_lt rfl) (s_buildSlice (z := .int .u8 0) (vs := nums .u8 [_]) hS11 Tryz.underlying35 (by kernel_rfl) (by kernel_rfl) rfl (by rfl) (by rfl) (by decide) rfl (nums_one _ _) rfl) (q_stringVec (hS11.vec at0) Tryz.underlying35 Tryz.underlying5 Tryz.underlying9 rfl) ?_ ?_
   ·
    rintro v45 H12 hS12
    clear hS11
    refine AnyW.two 4 8 rfl rfl (by kernel_rfl) rfl rfl (dst_lt rfl) (dst_lt rfl) (q_stringVec (hS12.vec at0) Tryz.underlying35 Tryz.underlying5 Tryz.underlying9 rfl) (q_stringVec (hS12.vec at1) Tryz.underlying35 Tryz.underlying5 Tryz.underlying9 rfl) ?_ ?_
    ·
     rintro _ _ ⟨rfl, rfl⟩
     refine AnyW.two 5 8 rfl rfl (by kernel_rfl) rfl rfl (dst_lt rfl) (dst_lt rfl) (q_cat rfl rfl (by simp only [nums_length, List.length_set, List.length_replicate, List.length_take, List.length_drop, List.length_append, List.length_cons, List.length_nil, ofB_length, toB_length]; omega)) (q_stringVec (hS12.vec at1) Tryz.underlying35 Tryz.underlying5 Tryz.underlying9 rfl) ?_ ?_
     ·
      rintro _ _ ⟨rfl, rfl⟩
      refine AnyW.onlyQ 8 rfl (by kernel_rfl) rfl (dst_lt rfl) (q_stringVec (hS12.vec at1) Tryz.underlying35 Tryz.underlying5 Tryz.underlying9 rfl) ?_
      refine AnyW.onlyQ 9 rfl (by kernel_rfl) rfl (dst_lt rfl) (q_cat rfl rfl (by simp only [nums_length, List.length_set, List.length_replicate, List.length_take, List.length_drop, List.length_append, List.length_cons, List.length_nil, ofB_length, toB_length]; omega)) ?_
      rw [show plain ++ toB [IntKind.u8.wrap kind] ++ toB (List.replicate pad.toNat 0) = bxInner kind plain pad from by rw [show toB (List.replicate pad.toNat 0) = List.replicate pad.toNat 0 from by simp [toB]]; rfl]
      refine AnyW.onlyQ 10 rfl (by kernel_rfl) rfl (dst_lt rfl) (q_assign (v := S _) rfl) ?_
      refine AnyW.done (by kernel_rfl) ?_
      refine SeqP.go ?_
      refine AW.seq ?_
      refine AW.drawK [] 13 rfl (by kernel_rfl) ?_
      refine SeqK.q rfl (q_move (v := .pointer _) rfl) ?_
      refine SeqK.q rfl (q_nilCheck rfl) ?_
      refine SeqK.q rfl (q_fieldAddr (sz := 0) Tryz.underlying40 rfl (by kernel_rfl) rfl) ?_
      refine SeqK.q rfl (q_load (v := S _) (by kernel_rfl) rfl (hS12.blk at2) rfl) ?_
      refine SeqK.q rfl (q_move (v := .pointer _) rfl) ?_
      refine SeqK.q rfl (q_nilCheck rfl) ?_
      refine SeqK.q rfl (q_fieldAddr (sz := 0) Tryz.underlying40 rfl (by kernel_rfl) rfl) ?_
      refine SeqK.q rfl (q_load (v := .int _ _) (by kernel_rfl) rfl (hS12.blk at2) rfl) ?_
      refine SeqK.q rfl (o_call rfl Tryz.func28 rfl rfl (NonceR_con (by omega))) ?_
      refine SeqK.q rfl (q_move (v := .tuple _) rfl) ?_
      rw [nonceP_ok hb2 (by omega)]
      refine SeqK.q rfl (q_extract (v := S _) rfl rfl) ?_
      refine SeqK.q rfl (q_extract (v := .int _ _) rfl rfl) ?_
      refine SeqK.q rfl (q_assign (v := S _) rfl) ?_
      refine SeqK.done ?_
      refine OpsW.q rfl (q_assign (v := .int _ _) rfl) ?_
      refine OpsW.nil ?_
      refine SeqP.go ?_
      refine AW.seq ?_
      refine AW.region ?_
      refine OpsW.q rfl (q_move (v := S _) rfl) ?_
      refine OpsW.q rfl (q_lenS Tryz.underlying9 rfl) ?_
      refine OpsW.q rfl (q_addI rfl rfl (by omega)) ?_
      refine OpsW.q rfl (o_call rfl Tryz.func30 rfl rfl (headR_con _ _ (by omega))) ?_
      rw [show headP 23 (((bxInner kind plain pad).length : Int) + 16) = bxHead kind plain pad from rfl]
      have hhl := bxHead_length kind plain pad
      refine OpsW.q rfl (q_assign (v := S _) rfl) ?_
      refine OpsW.nil ?_
      refine SeqP.go ?_
      refine AW.seq ?_
      refine AW.drawK [] 16 rfl (by kernel_rfl) ?_
      refine SeqK.q rfl (q_move (v := .pointer _) rfl) ?_
      refine SeqK.q rfl (q_nilCheck rfl) ?_
      refine SeqK.q rfl (q_fieldAddr (sz := 0) Tryz.underlying40 rfl (by kernel_rfl) rfl) ?_
      refine SeqK.q rfl (q_load (v := .int _ _) (by kernel_rfl) rfl (hS12.blk at2) rfl) ?_
      refine SeqK.q rfl (q_move (v := .pointer _) rfl) ?_
      refine SeqK.q rfl (q_nilCheck rfl) ?_
      refine SeqK.q rfl (q_fieldAddr (sz := 0) Tryz.underlying40 rfl (by kernel_rfl) rfl) ?_
      refine SeqK.q rfl (q_load (v := S _) (by kernel_rfl) rfl (hS12.blk at2) rfl) ?_
      refine SeqK.q rfl (q_move (v := S _) rfl) ?_
      refine SeqK.q rfl (q_move (v := S _) rfl) ?_
      refine SeqK.q rfl (q_move (v := S _) rfl) ?_
      refine SeqK.q rfl (o_call rfl Tryz.func8 rfl rfl (sSealR_con (by omega) (by omega))) ?_
      refine SeqK.q rfl (q_move (v := .tuple _) rfl) ?_
      rw [← hbs]
      refine SeqK.q rfl (q_extract (v := S _) rfl rfl) ?_
      refine SeqK.q rfl (q_extract (v := .int _ _) rfl rfl) ?_
      refine SeqK.q rfl (q_assign (v := S _) rfl) ?_
      refine SeqK.done ?_
      refine OpsW.q rfl (q_assign (v := .int _ _) rfl) ?_
      refine OpsW.nil ?_
      refine SeqP.go ?_
      refine AW.seq ?_
      refine AW.region ?_
      refine OpsW.q rfl (q_move (v := .pointer _) rfl) ?_
      refine OpsW.q rfl (q_move (v := .pointer _) rfl) ?_
      refine OpsW.q rfl (q_nilCheck rfl) ?_
      refine OpsW.q rfl (q_fieldAddr (sz := 0) Tryz.underlying40 rfl (by kernel_rfl) rfl) ?_
      refine OpsW.q rfl (q_load (v := .int _ _) (by kernel_rfl) rfl (hS12.blk at2) rfl) ?_
      refine OpsW.q rfl (q_addI rfl rfl (by omega)) ?_
      refine OpsW.q rfl (q_nilCheck rfl) ?_
      refine OpsW.q rfl (q_fieldAddr (sz := 0) Tryz.underlying40 rfl (by kernel_rfl) rfl) ?_
      refine OpsW.ms (s_storeC (v := .int _ _) hS12 at2 (by kernel_rfl) rfl rfl rfl (by simp; done)) ?_
      rintro _ H13 ⟨rfl, hS13⟩
      clear hS12
      refine OpsW.nil ?_
      refine SeqP.go ?_
      refine AW.seq ?_
      refine AW.region ?_
      refine OpsW.q rfl (q_move (v := S _) rfl) ?_
      refine OpsW.q rfl (q_move (v := S _) rfl) ?_
      refine OpsW.q rfl (q_cat rfl rfl (by omega)) ?_
      refine OpsW.q rfl (q_assign (v := S _) rfl) ?_
      refine OpsW.q rfl (q_assign (v := .int _ _) rfl) ?_
      refine OpsW.nil ?_
      refine SeqP.go ?_
      refine AW.ret ?_
      refine RetP.mk2 (H' := _) (v1 := S _) (v2 := .int _ _) rfl rfl rfl  (Hp.le_refl _) ?_
      rw [e1, e2]
      exact ⟨rfl, hS13.tail.tail⟩
     ·
      rintro _ _ ⟨rfl, rfl⟩
      refine AnyW.onlyQ 5 rfl (by kernel_rfl) rfl (dst_lt rfl) (q_cat rfl rfl (by simp only [nums_length, List.length_set, List.length_replicate, List.length_take, List.length_drop, List.length_append, List.length_cons, List.length_nil, ofB_length, toB_length]; omega)) ?_
      refine AnyW.onlyQ 9 rfl (by kernel_rfl) rfl (dst_lt rfl) (q_cat rfl rfl (by simp only [nums_length, List.length_set, List.length_replicate, List.length_take, List.length_drop, List.length_append, List.length_cons, List.length_nil, ofB_length, toB_length]; omega)) ?_
      rw [show plain ++ toB [IntKind.u8.wrap kind] ++ toB (List.replicate pad.toNat 0) = bxInner kind plain pad from by rw [show toB (List.replicate pad.toNat 0) = List.replicate pad.toNat 0 from by simp [toB]]; rfl]
      refine AnyW.onlyQ 10 rfl (by kernel_rfl) rfl (dst_lt rfl) (q_assign (v := S _) rfl) ?_
      refine AnyW.done (by kernel_rfl) ?_
      refine SeqP.go ?_
      refine AW.seq ?_
      refine AW.drawK [] 13 rfl (by kernel_rfl) ?_
      refine SeqK.q rfl (q_move (v := .pointer _) rfl) ?_
      refine SeqK.q rfl (q_nilCheck rfl) ?_
      refine SeqK.q rfl (q_fieldAddr (sz := 0) Tryz.underlying40 rfl (by kernel_rfl) rfl) ?_
      refine SeqK.q rfl (q_load (v := S _) (by kernel_rfl) rfl (hS12.blk at2) rfl) ?_
      refine SeqK.q rfl (q_move (v := .pointer _) rfl) ?_
      refine SeqK.q rfl (q_nilCheck rfl) ?_
      refine SeqK.q rfl (q_fieldAddr (sz := 0) Tryz.underlying40 rfl (by kernel_rfl) rfl) ?_
      refine SeqK.q rfl (q_load (v := .int _ _) (by kernel_rfl) rfl (hS12.blk at2) rfl) ?_
      refine SeqK.q rfl (o_call rfl Tryz.func28 rfl rfl (NonceR_con (by omega))) ?_
      refine SeqK.q rfl (q_move (v := .tuple _) rfl) ?_
      rw [nonceP_ok hb2 (by omega)]
      refine SeqK.q rfl (q_extract (v := S _) rfl rfl) ?_
      refine SeqK.q rfl (q_extract (v := .int _ _) rfl rfl) ?_
      refine SeqK.q rfl (q_assign (v := S _) rfl) ?_
      refine SeqK.done ?_
      refine OpsW.q rfl (q_assign (v := .int _ _) rfl) ?_
      refine OpsW.nil ?_
      refine SeqP.go ?_
      refine AW.seq ?_
      refine AW.region ?_
      refine OpsW.q rfl (q_move (v := S _) rfl) ?_
      refine OpsW.q rfl (q_lenS Tryz.underlying9 rfl) ?_
      refine OpsW.q rfl (q_addI rfl rfl (by omega)) ?_
      refine OpsW.q rfl (o_call rfl Tryz.func30 rfl rfl (headR_con _ _ (by omega))) ?_
      rw [show headP 23 (((bxInner kind plain pad).length : Int) + 16) = bxHead kind plain pad from rfl]
      have hhl := bxHead_length kind plain pad
      refine OpsW.q rfl (q_assign (v := S _) rfl) ?_
      refine OpsW.nil ?_
      refine SeqP.go ?_
      refine AW.seq ?_
      refine AW.drawK [] 16 rfl (by kernel_rfl) ?_
      refine SeqK.q rfl (q_move (v := .pointer _) rfl) ?_
      refine SeqK.q rfl (q_nilCheck rfl) ?_
      refine SeqK.q rfl (q_fieldAddr (sz := 0) Tryz.underlying40 rfl (by kernel_rfl) rfl) ?_
      refine SeqK.q rfl (q_load (v := .int _ _) (by kernel_rfl) rfl (hS12.blk at2) rfl) ?_
      refine SeqK.q rfl (q_move (v := .pointer _) rfl) ?_
      refine SeqK.q rfl (q_nilCheck rfl) ?_
      refine SeqK.q rfl (q_fieldAddr (sz := 0) Tryz.underlying40 rfl (by kernel_rfl) rfl) ?_
      refine SeqK.q rfl (q_load (v := S _) (by kernel_rfl) rfl (hS12.blk at2) rfl) ?_
      refine SeqK.q rfl (q_move (v := S _) rfl) ?_
      refine SeqK.q rfl (q_move (v := S _) rfl) ?_
      refine SeqK.q rfl (q_move (v := S _) rfl) ?_
      refine SeqK.q rfl (o_call rfl Tryz.func8 rfl rfl (sSealR_con (by omega) (by omega))) ?_
      refine SeqK.q rfl (q_move (v := .tuple _) rfl) ?_
      rw [← hbs]
      refine SeqK.q rfl (q_extract (v := S _) rfl rfl) ?_
      refine SeqK.q rfl (q_extract (v := .int _ _) rfl rfl) ?_
      refine SeqK.q rfl (q_assign (v := S _) rfl) ?_
      refine SeqK.done ?_
      refine OpsW.q rfl (q_assign (v := .int _ _) rfl) ?_
      refine OpsW.nil ?_
      refine SeqP.go ?_
      refine AW.seq ?_
      refine AW.region ?_
      refine OpsW.q rfl (q_move (v := .pointer _) rfl) ?_
      refine OpsW.q rfl (q_move (v := .pointer _) rfl) ?_
      refine OpsW.q rfl (q_nilCheck rfl) ?_
      refine OpsW.q rfl (q_fieldAddr (sz := 0) Tryz.underlying40 rfl (by kernel_rfl) rfl) ?_
      refine OpsW.q rfl (q_load (v := .int _ _) (by kernel_rfl) rfl (hS12.blk at2) rfl) ?_
      refine OpsW.q rfl (q_addI rfl rfl (by omega)) ?_
      refine OpsW.q rfl (q_nilCheck rfl) ?_
      refine OpsW.q rfl (q_fieldAddr (sz := 0) Tryz.underlying40 rfl (by kernel_rfl) rfl) ?_
      refine OpsW.ms (s_storeC (v := .int _ _) hS12 at2 (by kernel_rfl) rfl rfl rfl (by simp; done)) ?_
      rintro _ H14 ⟨rfl, hS14⟩
      clear hS12
      refine OpsW.nil ?_
      refine SeqP.go ?_
      refine AW.seq ?_
      refine AW.region ?_
      refine OpsW.q rfl (q_move (v := S _) rfl) ?_
      refine OpsW.q rfl (q_move (v := S _) rfl) ?_
      refine OpsW.q rfl (q_cat rfl rfl (by omega)) ?_
      refine OpsW.q rfl (q_assign (v := S _) rfl) ?_
      refine OpsW.q rfl (q_assign (v := .int _ _) rfl) ?_
      refine OpsW.nil ?_
      refine SeqP.go ?_
      refine AW.ret ?_
      refine RetP.mk2 (H' := _) (v1 := S _) (v2 := .int _ _) rfl rfl rfl  (Hp.le_refl _) ?_
      rw [e1, e2]
      exact ⟨rfl, hS14.tail.tail⟩
    ·
     rintro _ _ ⟨rfl, rfl⟩
     refine AnyW.onlyQ 4 rfl (by kernel_rfl) rfl (dst_lt rfl) (q_stringVec (hS12.vec at0) Tryz.underlying35 Tryz.underlying5 Tryz.underlying9 rfl) ?_
     refine AnyW.onlyQ 5 rfl (by kernel_rfl) rfl (dst_lt rfl) (q_cat rfl rfl (by simp only [nums_length, List.length_set, List.length_replicate, List.length_take, List.length_drop, List.length_append, List.length_cons, List.length_nil, ofB_length, toB_length]; omega)) ?_
     refine AnyW.onlyQ 9 rfl (by kernel_rfl) rfl (dst_lt rfl) (q_cat rfl rfl (by simp only [nums_length, List.length_set, List.length_replicate, List.length_take, List.length_drop, List.length_append, List.length_cons, List.length_nil, ofB_length, toB_length]; omega)) ?_
     rw [show plain ++ toB [IntKind.u8.wrap kind] ++ toB (List.replicate pad.toNat 0) = bxInner kind plain pad from by rw [show toB (List.replicate pad.toNat 0) = List.replicate pad.toNat 0 from by simp [toB]]; rfl]
     refine AnyW.onlyQ 10 rfl (by kernel_rfl) rfl (dst_lt rfl) (q_assign (v := S _) rfl) ?_
     refine AnyW.done (by kernel_rfl) ?_
     refine SeqP.go ?_
     refine AW.seq ?_
     refine AW.drawK [] 13 rfl (by kernel_rfl) ?_
     refine SeqK.q rfl (q_move (v := .pointer _) rfl) ?_
     refine SeqK.q rfl (q_nilCheck rfl) ?_
     refine SeqK.q rfl (q_fieldAddr (sz := 0) Tryz.underlying40 rfl (by kernel_rfl) rfl) ?_
     refine SeqK.q rfl (q_load (v := S _) (by kernel_rfl) rfl (hS12.blk at2) rfl) ?_
     refine SeqK.q rfl (q_move (v := .pointer _) rfl) ?_
     refine SeqK.q rfl (q_nilCheck rfl) ?_
     refine SeqK.q rfl (q_fieldAddr (sz := 0) Tryz.underlying40 rfl (by kernel_rfl) rfl) ?_
     refine SeqK.q rfl (q_load (v := .int _ _) (by kernel_rfl) rfl (hS12.blk at2) rfl) ?_
     refine SeqK.q rfl (o_call rfl Tryz.func28 rfl rfl (NonceR_con (by omega))) ?_
     refine SeqK.q rfl (q_move (v := .tuple _) rfl) ?_
     rw [nonceP_ok hb2 (by omega)]
     refine SeqK.q rfl (q_extract (v := S _) rfl rfl) ?_
     refine SeqK.q rfl (q_extract (v := .int _ _) rfl rfl) ?_
     refine SeqK.q rfl (q_assign (v := S _) rfl) ?_
     refine SeqK.done ?_
     refine OpsW.q rfl (q_assign (v := .int _ _) rfl) ?_
     refine OpsW.nil ?_
     refine SeqP.go ?_
     refine AW.seq ?_
     refine AW.region ?_
     refine OpsW.q rfl (q_move (v := S _) rfl) ?_
     refine OpsW.q rfl (q_lenS Tryz.underlying9 rfl) ?_
     refine OpsW.q rfl (q_addI rfl rfl (by omega)) ?_
     refine OpsW.q rfl (o_call rfl Tryz.func30 rfl rfl (headR_con _ _ (by omega))) ?_
     rw [show headP 23 (((bxInner kind plain pad).length : Int) + 16) = bxHead kind plain pad from rfl]
     have hhl := bxHead_length kind plain pad
     refine OpsW.q rfl (q_assign (v := S _) rfl) ?_
     refine OpsW.nil ?_
     refine SeqP.go ?_
     refine AW.seq ?_
     refine AW.drawK [] 16 rfl (by kernel_rfl) ?_
     refine SeqK.q rfl (q_move (v := .pointer _) rfl) ?_
     refine SeqK.q rfl (q_nilCheck rfl) ?_
     refine SeqK.q rfl (q_fieldAddr (sz := 0) Tryz.underlying40 rfl (by kernel_rfl) rfl) ?_
     refine SeqK.q rfl (q_load (v := .int _ _) (by kernel_rfl) rfl (hS12.blk at2) rfl) ?_
     refine SeqK.q rfl (q_move (v := .pointer _) rfl) ?_
     refine SeqK.q rfl (q_nilCheck rfl) ?_
     refine SeqK.q rfl (q_fieldAddr (sz := 0) Tryz.underlying40 rfl (by kernel_rfl) rfl) ?_
     refine SeqK.q rfl (q_load (v := S _) (by kernel_rfl) rfl (hS12.blk at2) rfl) ?_
     refine SeqK.q rfl (q_move (v := S _) rfl) ?_
     refine SeqK.q rfl (q_move (v := S _) rfl) ?_
     refine SeqK.q rfl (q_move (v := S _) rfl) ?_
     refine SeqK.q rfl (o_call rfl Tryz.func8 rfl rfl (sSealR_con (by omega) (by omega))) ?_
     refine SeqK.q rfl (q_move (v := .tuple _) rfl) ?_
     rw [← hbs]
     refine SeqK.q rfl (q_extract (v := S _) rfl rfl) ?_
     refine SeqK.q rfl (q_extract (v := .int _ _) rfl rfl) ?_
     refine SeqK.q rfl (q_assign (v := S _) rfl) ?_
     refine SeqK.done ?_
     refine OpsW.q rfl (q_assign (v := .int _ _) rfl) ?_
     refine OpsW.nil ?_
     refine SeqP.go ?_
     refine AW.seq ?_
     refine AW.region ?_
     refine OpsW.q rfl (q_move (v := .pointer _) rfl) ?_
     refine OpsW.q rfl (q_move (v := .pointer _) rfl) ?_
     refine OpsW.q rfl (q_nilCheck rfl) ?_
     refine OpsW.q rfl (q_fieldAddr (sz := 0) Tryz.underlying40 rfl (by kernel_rfl) rfl) ?_
     refine OpsW.q rfl (q_load (v := .int _ _) (by kernel_rfl) rfl (hS12.blk at2) rfl) ?_
     refine OpsW.q rfl (q_addI rfl rfl (by omega)) ?_
     refine OpsW.q rfl (q_nilCheck rfl) ?_
     refine OpsW.q rfl (q_fieldAddr (sz := 0) Tryz.underlying40 rfl (by kernel_rfl) rfl) ?_
     refine OpsW.ms (s_storeC (v := .int _ _) hS12 at2 (by kernel_rfl) rfl rfl rfl (by simp; done)) ?_
     rintro _ H15 ⟨rfl, hS15⟩
     clear hS12
     refine OpsW.nil ?_
     refine SeqP.go ?_
     refine AW.seq ?_
     refine AW.region ?_
     refine OpsW.q rfl (q_move (v := S _) rfl) ?_
     refine OpsW.q rfl (q_move (v := S _) rfl) ?_
     refine OpsW.q rfl (q_cat rfl rfl (by omega)) ?_
     refine OpsW.q rfl (q_assign (v := S _) rfl) ?_
     refine OpsW.q rfl (q_assign (v := .int _ _) rfl) ?_
     refine OpsW.nil ?_
     refine SeqP.go ?_
     refine AW.ret ?_
     refine RetP.mk2 (H' := _) (v1 := S _) (v2 := .int _ _) rfl rfl rfl  (Hp.le_refl _) ?_
     rw [e1, e2]
     exact ⟨rfl, hS15.tail.tail⟩
   ·
    rintro _ _ ⟨rfl, rfl⟩
    refine AnyW.only 3 rfl (by kernel_rfl) rfl (dst_lt rfl) (s_buildSlice (z := .int .u8 0) (vs := nums .u8 [_]) hS11 Tryz.underlying35 (by kernel_rfl) (by kernel_rfl) rfl (by rfl) (by rfl) (by decide) rfl (nums_one _ _) rfl) ?_
    rintro v45 H16 hS16
    clear hS11
    refine AnyW.onlyQ 4 rfl (by kernel_rfl) rfl (dst_lt rfl) (q_stringVec (hS16.vec at0) Tryz.underlying35 Tryz.underlying5 Tryz.underlying9 rfl) ?_
    refine AnyW.onlyQ 5 rfl (by kernel_rfl) rfl (dst_lt rfl) (q_cat rfl rfl (by simp only [nums_length, List.length_set, List.length_replicate, List.length_take, List.length_drop, List.length_append, List.length_cons, List.length_nil, ofB_length, toB_length]; omega)) ?_
    refine AnyW.onlyQ 9 rfl (by kernel_rfl) rfl (dst_lt rfl) (q_cat rfl rfl (by simp only [nums_length, List.length_set, List.length_replicate, List.length_take, List.length_drop, List.length_append, List.length_cons, List.length_nil, ofB_length, toB_length]; omega)) ?_
    rw [show plain ++ toB [IntKind.u8.wrap kind] ++ toB (List.replicate pad.toNat 0) = bxInner kind plain pad from by rw [show toB (List.replicate pad.toNat 0) = List.replicate pad.toNat 0 from by simp [toB]]; rfl]
    refine AnyW.onlyQ 10 rfl (by kernel_rfl) rfl (dst_lt rfl) (q_assign (v := S _) rfl) ?_
    refine AnyW.done (by kernel_rfl) ?_
    refine SeqP.go ?_
    refine AW.seq ?_
    refine AW.drawK [] 13 rfl (by kernel_rfl) ?_
    refine SeqK.q rfl (q_move (v := .pointer _) rfl) ?_
    refine SeqK.q rfl (q_nilCheck rfl) ?_
    refine SeqK.q rfl (q_fieldAddr (sz := 0) Tryz.underlying40 rfl (by kernel_rfl) rfl) ?_
    refine SeqK.q rfl (q_load (v := S _) (by kernel_rfl) rfl (hS16.blk at2) rfl) ?_
    refine SeqK.q rfl (q_move (v := .pointer _) rfl) ?_
    refine SeqK.q rfl (q_nilCheck rfl) ?_
    refine SeqK.q rfl (q_fieldAddr (sz := 0) Tryz.underlying40 rfl (by kernel_rfl) rfl) ?_
    refine SeqK.q rfl (q_load (v := .int _ _) (by kernel_rfl) rfl (hS16.blk at2) rfl) ?_
    refine SeqK.q rfl (o_call rfl Tryz.func28 rfl rfl (NonceR_con (by omega))) ?_
    refine SeqK.q rfl (q_move (v := .tuple _) rfl) ?_
    rw [nonceP_ok hb2 (by omega)]
    refine SeqK.q rfl (q_extract (v := S _) rfl rfl) ?_
    refine SeqK.q rfl (q_extract (v := .int _ _) rfl rfl) ?_
    refine SeqK.q rfl (q_assign (v := S _) rfl) ?_
    refine SeqK.done ?_
    refine OpsW.q rfl (q_assign (v := .int _ _) rfl) ?_
    refine OpsW.nil ?_
    refine SeqP.go ?_
    refine AW.seq ?_
    refine AW.region ?_
    refine OpsW.q rfl (q_move (v := S _) rfl) ?_
    refine OpsW.q rfl (q_lenS Tryz.underlying9 rfl) ?_
    refine OpsW.q rfl (q_addI rfl rfl (by omega)) ?_
    refine OpsW.q rfl (o_call rfl Tryz.func30 rfl rfl (headR_con _ _ (by omega))) ?_
    rw [show headP 23 (((bxInner kind plain pad).length : Int) + 16) = bxHead kind plain pad from rfl]
    have hhl := bxHead_length kind plain pad
    refine OpsW.q rfl (q_assign (v := S _) rfl) ?_
    refine OpsW.nil ?_
    refine SeqP.go ?_
    refine AW.seq ?_
    refine AW.drawK [] 16 rfl (by kernel_rfl) ?_
    refine SeqK.q rfl (q_move (v := .pointer _) rfl) ?_
    refine SeqK.q rfl (q_nilCheck rfl) ?_
    refine SeqK.q rfl (q_fieldAddr (sz := 0) Tryz.underlying40 rfl (by kernel_rfl) rfl) ?_
    refine SeqK.q rfl (q_load (v := .int _ _) (by kernel_rfl) rfl (hS16.blk at2) rfl) ?_
    refine SeqK.q rfl (q_move (v := .pointer _) rfl) ?_
    refine SeqK.q rfl (q_nilCheck rfl) ?_
    refine SeqK.q rfl (q_fieldAddr (sz := 0) Tryz.underlying40 rfl (by kernel_rfl) rfl) ?_
    refine SeqK.q rfl (q_load (v := S _) (by kernel_rfl) rfl (hS16.blk at2) rfl) ?_
    refine SeqK.q rfl (q_move (v := S _) rfl) ?_
    refine SeqK.q rfl (q_move (v := S _) rfl) ?_
    refine SeqK.q rfl (q_move (v := S _) rfl) ?_
    refine SeqK.q rfl (o_call rfl Tryz.func8 rfl rfl (sSealR_con (by omega) (by omega))) ?_
    refine SeqK.q rfl (q_move (v := .tuple _) rfl) ?_
    rw [← hbs]
    refine SeqK.q rfl (q_extract (v := S _) rfl rfl) ?_
    refine SeqK.q rfl (q_extract (v := .int _ _) rfl rfl) ?_
    refine SeqK.q rfl (q_assign (v := S _) rfl) ?_
    refine SeqK.done ?_
    refine OpsW.q rfl (q_assign (v := .int _ _) rfl) ?_
    refine OpsW.nil ?_
    refine SeqP.go ?_
    refine AW.seq ?_
    refine AW.region ?_
    refine OpsW.q rfl (q_move (v := .pointer _) rfl) ?_
    refine OpsW.q rfl (q_move (v := .pointer _) rfl) ?_
    refine OpsW.q rfl (q_nilCheck rfl) ?_
    refine OpsW.q rfl (q_fieldAddr (sz := 0) Tryz.underlying40 rfl (by kernel_rfl) rfl) ?_
    refine OpsW.q rfl (q_load (v := .int _ _) (by kernel_rfl) rfl (hS16.blk at2) rfl) ?_
    refine OpsW.q rfl (q_addI rfl rfl (by omega)) ?_
    refine OpsW.q rfl (q_nilCheck rfl) ?_
    refine OpsW.q rfl (q_fieldAddr (sz := 0) Tryz.underlying40 rfl (by kernel_rfl) rfl) ?_
    refine OpsW.ms (s_storeC (v := .int _ _) hS16 at2 (by kernel_rfl) rfl rfl rfl (by simp; done)) ?_
    rintro _ H17 ⟨rfl, hS17⟩
    clear hS16
    refine OpsW.nil ?_
    refine SeqP.go ?_
    refine AW.seq ?_
    refine AW.region ?_
    refine OpsW.q rfl (q_move (v := S _) rfl) ?_
    refine OpsW.q rfl (q_move (v := S _) rfl) ?_
    refine OpsW.q rfl (q_cat rfl rfl (by omega)) ?_
    refine OpsW.q rfl (q_assign (v := S _) rfl) ?_
    refine OpsW.q rfl (q_assign (v := .int _ _) rfl) ?_
    refine OpsW.nil ?_
    refine SeqP.go ?_
    refine AW.ret ?_
    refine RetP.mk2 (H' := _) (v1 := S _) (v2 := .int _ _) rfl rfl rfl  (Hp.le_refl _) ?_
    rw [e1, e2]
    exact ⟨rfl, hS17.tail.tail⟩
 ·
  rintro v49 H18 hS18
  clear hS0
  refine AnyW.two 2 8 rfl rfl (by kernel_rfl) rfl rfl (dst_lt rfl) (dst_lt rfl) (q_convInt rfl Tryz.underlying5 rfl) (q_stringVec (hS18.vec at0) Tryz.underlying35 Tryz.underlying5 Tryz.underlying9 rfl) ?_ ?_
  ·
   rintro _ _ ⟨rfl, rfl⟩
   refine AnyW.two 3 8 rfl rfl (by kernel_rfl) rfl rfl (dst_lt rfl) (dst_lt rfl) (s_buildSlice (z := .int .u8 0) (vs := nums .u8 [_]) hS18 Tryz.underlying35 (by kernel_rfl) (by kernel_rfl) rfl (by rfl) (by rfl) (by decide) rfl (nums_one _ _) rfl) (q_stringVec (hS18.vec at0) Tryz.underlying35 Tryz.underlying5 Tryz.underlying9 rfl) ?_ ?_
   ·
    rintro v45 H19 hS19
    clear hS18
    refine AnyW.two 4 8 rfl rfl (by kernel_rfl) rfl rfl (dst_lt rfl) (dst_lt rfl) (q_stringVec (hS19.vec at0) Tryz.underlying35 Tryz.underlying5 Tryz.underlying9 rfl) (q_stringVec (hS19.vec at1) Tryz.underlying35 Tryz.underlying5 Tryz.underlying9 rfl) ?_ ?_
    ·
     rintro _ _ ⟨rfl, rfl⟩
     refine AnyW.two 5 8 rfl rfl (by kernel_rfl) rfl rfl (dst_lt rfl) (dst_lt rfl) (q_cat rfl rfl (by simp only [nums_length, List.length_set, List.length_replicate, List.length_take, List.length_drop, List.length_append, List.length_cons, List.length_nil, ofB_length, toB_length]; omega)) (q_stringVec (hS19.vec at1) Tryz.underlying35 Tryz.underlying5 Tryz.underlying9 rfl) ?_ ?_
     ·
      rintro _ _ ⟨rfl, rfl⟩
      refine AnyW.onlyQ 8 rfl (by kernel_rfl) rfl (dst_lt rfl) (q_stringVec (hS19.vec at1) Tryz.underlying35 Tryz.underlying5 Tryz.underlying9 rfl) ?_
      refine AnyW.onlyQ 9 rfl (by kernel_rfl) rfl (dst_lt rfl) (q_cat rfl rfl (by simp only [nums_length, List.length_set, List.length_replicate, List.length_take, List.length_drop, List.length_append, List.length_cons, List.length_nil, ofB_length, toB_length]; omega)) ?_
      rw [show plain ++ toB [IntKind.u8.wrap kind] ++ toB (List.replicate pad.toNat 0) = bxInner kind plain pad from by rw [show toB (List.replicate pad.toNat 0) = List.replicate pad.toNat 0 from by simp [toB]]; rfl]
      refine AnyW.onlyQ 10 rfl (by kernel_rfl) rfl (dst_lt rfl) (q_assign (v := S _) rfl) ?_
      refine AnyW.done (by kernel_rfl) ?_
      refine SeqP.go ?_
      refine AW.seq ?_
      refine AW.drawK [] 13 rfl (by kernel_rfl) ?_
      refine SeqK.q rfl (q_move (v := .pointer _) rfl) ?_
      refine SeqK.q rfl (q_nilCheck rfl) ?_
      refine SeqK.q rfl (q_fieldAddr (sz := 0) Tryz.underlying40 rfl (by kernel_rfl) rfl) ?_
      refine SeqK.q rfl (q_load (v := S _) (by kernel_rfl) rfl (hS19.blk at2) rfl) ?_
      refine SeqK.q rfl (q_move (v := .pointer _) rfl) ?_
      refine SeqK.q rfl (q_nilCheck rfl) ?_
      refine SeqK.q rfl (q_fieldAddr (sz := 0) Tryz.underlying40 rfl (by kernel_rfl) rfl) ?_
      refine SeqK.q rfl (q_load (v := .int _ _) (by kernel_rfl) rfl (hS19.blk at2) rfl) ?_
      refine SeqK.q rfl (o_call rfl Tryz.func28 rfl rfl (NonceR_con (by omega))) ?_
      refine SeqK.q rfl (q_move (v := .tuple _) rfl) ?_
      rw [nonceP_ok hb2 (by omega)]
      refine SeqK.q rfl (q_extract (v := S _) rfl rfl) ?_
      refine SeqK.q rfl (q_extract (v := .int _ _) rfl rfl) ?_
      refine SeqK.q rfl (q_assign (v := S _) rfl) ?_
      refine SeqK.done ?_
      refine OpsW.q rfl (q_assign (v := .int _ _) rfl) ?_
      refine OpsW.nil ?_
      refine SeqP.go ?_
      refine AW.seq ?_
      refine AW.region ?_
      refine OpsW.q rfl (q_move (v := S _) rfl) ?_
      refine OpsW.q rfl (q_lenS Tryz.underlying9 rfl) ?_
      refine OpsW.q rfl (q_addI rfl rfl (by omega)) ?_
      refine OpsW.q rfl (o_call rfl Tryz.func30 rfl rfl (headR_con _ _ (by omega))) ?_
      rw [show headP 23 (((bxInner kind plain pad).length : Int) + 16) = bxHead kind plain pad from rfl]
      have hhl := bxHead_length kind plain pad
      refine OpsW.q rfl (q_assign (v := S _) rfl) ?_
      refine OpsW.nil ?_
      refine SeqP.go ?_
      refine AW.seq ?_
      refine AW.drawK [] 16 rfl (by kernel_rfl) ?_
      refine SeqK.q rfl (q_move (v := .pointer _) rfl) ?_
      refine SeqK.q rfl (q_nilCheck rfl) ?_
      refine SeqK.q rfl (q_fieldAddr (sz := 0) Tryz.underlying40 rfl (by kernel_rfl) rfl) ?_
      refine SeqK.q rfl (q_load (v := .int _ _) (by kernel_rfl) rfl (hS19.blk at2) rfl) ?_
      refine SeqK.q rfl (q_move (v := .pointer _) rfl) ?_
      refine SeqK.q rfl (q_nilCheck rfl) ?_
      refine SeqK.q rfl (q_fieldAddr (sz := 0) Tryz.underlying40 rfl (by kernel_rfl) rfl) ?_
      refine SeqK.q rfl (q_load (v := S _) (by kernel_rfl) rfl (hS19.blk at2) rfl) ?_
      refine SeqK.q rfl (q_move (v := S _) rfl) ?_
      refine SeqK.q rfl (q_move (v := S _) rfl) ?_
      refine SeqK.q rfl (q_move (v := S _) rfl) ?_
      refine SeqK.q rfl (o_call rfl Tryz.func8 rfl rfl (sSealR_con (by omega) (by omega))) ?_
      refine SeqK.q rfl (q_move (v := .tuple _) rfl) ?_
      rw [← hbs]
      refine SeqK.q rfl (q_extract (v := S _) rfl rfl) ?_
      refine SeqK.q rfl (q_extract (v := .int _ _) rfl rfl) ?_
      refine SeqK.q rfl (q_assign (v := S _) rfl) ?_
      refine SeqK.done ?_
      refine OpsW.q rfl (q_assign (v := .int _ _) rfl) ?_
      refine OpsW.nil ?_
      refine SeqP.go ?_
      refine AW.seq ?_
      refine AW.region ?_
      refine OpsW.q rfl (q_move (v := .pointer _) rfl) ?_
      refine OpsW.q rfl (q_move (v := .pointer _) rfl) ?_
      refine OpsW.q rfl (q_nilCheck rfl) ?_
      refine OpsW.q rfl (q_fieldAddr (sz := 0) Tryz.underlying40 rfl (by kernel_rfl) rfl) ?_
      refine OpsW.q rfl (q_load (v := .int _ _) (by kernel_rfl) rfl (hS19.blk at2) rfl) ?_
      refine OpsW.q rfl (q_addI rfl rfl (by omega)) ?_
      refine OpsW.q rfl (q_nilCheck rfl) ?_
      refine OpsW.q rfl (q_fieldAddr (sz := 0) Tryz.underlying40 rfl (by kernel_rfl) rfl) ?_
      refine OpsW.ms (s_storeC (v := .int _ _) hS19 at2 (by kernel_rfl) rfl rfl rfl (by simp; done)) ?_
      rintro _ H20 ⟨rfl, hS20⟩
      clear hS19
      refine OpsW.nil ?_
      refine SeqP.go ?_
      refine AW.seq ?_
      refine AW.region ?_
      refine OpsW.q rfl (q_move (v := S _) rfl) ?_
      refine OpsW.q rfl (q_move (v := S _) rfl) ?_
      refine OpsW.q rfl (q_cat rfl rfl (by omega)) ?_
      refine OpsW.q rfl (q_assign (v := S _) rfl) ?_
      refine OpsW.q rfl (q_assign (v := .int _ _) rfl) ?_
      refine OpsW.nil ?_
      refine SeqP.go ?_
      refine AW.ret ?_
      refine RetP.mk2 (H' := _) (v1 := S _) (v2 := .int _ _) rfl rfl rfl  (Hp.le_refl _) ?_
      rw [e1, e2]
      exact ⟨rfl, hS20.tail.tail⟩
     ·
      rintro _ _ ⟨rfl, rfl⟩
      refine AnyW.onlyQ 5 rfl (by kernel_rfl) rfl (dst_lt rfl) (q_cat rfl rfl (by simp only [nums_length, List.length_set, List.length_replicate, List.length_take, List.length_drop, List.length_append, List.length_cons, List.length_nil, ofB_length, toB_length]; omega)) ?_
      refine AnyW.onlyQ 9 rfl (by kernel_rfl) rfl (dst_lt rfl) (q_cat rfl rfl (by simp only [nums_length, List.length_set, List.length_replicate, List.length_take, List.length_drop, List.length_append, List.length_cons, List.length_nil, ofB_length, toB_length]; omega)) ?_
      rw [show plain ++ toB [IntKind.u8.wrap kind] ++ toB (List.replicate pad.toNat 0) = bxInner kind plain pad from by rw [show toB (List.replicate pad.toNat 0) = List.replicate pad.toNat 0 from by simp [toB]]; rfl]
      refine AnyW.onlyQ 10 rfl (by kernel_rfl) rfl (dst_lt rfl) (q_assign (v := S _) rfl) ?_
      refine AnyW.done (by kernel_rfl) ?_
      refine SeqP.go ?_
      refine AW.seq ?_
      refine AW.drawK [] 13 rfl (by kernel_rfl) ?_
      refine SeqK.q rfl (q_move (v := .pointer _) rfl) ?_
      refine SeqK.q rfl (q_nilCheck rfl) ?_
      refine SeqK.q rfl (q_fieldAddr (sz := 0) Tryz.underlying40 rfl (by kernel_rfl) rfl) ?_
      refine SeqK.q rfl (q_load (v := S _) (by kernel_rfl) rfl (hS19.blk at2) rfl) ?_
      refine SeqK.q rfl (q_move (v := .pointer _) rfl) ?_
      refine SeqK.q rfl (q_nilCheck rfl) ?_
      refine SeqK.q rfl (q_fieldAddr (sz := 0) Tryz.underlying40 rfl (by kernel_rfl) rfl) ?_
      refine SeqK.q rfl (q_load (v := .int _ _) (by kernel_rfl) rfl (hS19.blk at2) rfl) ?_
      refine SeqK.q rfl (o_call rfl Tryz.func28 rfl rfl (NonceR_con (by omega))) ?_
      refine SeqK.q rfl (q_move (v := .tuple _) rfl) ?_
      rw [nonceP_ok hb2 (by omega)]
      refine SeqK.q rfl (q_extract (v := S _) rfl rfl) ?_
      refine SeqK.q rfl (q_extract (v := .int _ _) rfl rfl) ?_
      refine SeqK.q rfl (q_assign (v := S _) rfl) ?_
      refine SeqK.done ?_
      refine OpsW.q rfl (q_assign (v := .int _ _) rfl) ?_
      refine OpsW.nil ?_
      refine SeqP.go ?_
      refine AW.seq ?_
      refine AW.region ?_
      refine OpsW.q rfl (q_move (v := S _) rfl) ?_
      refine OpsW.q rfl (q_lenS Tryz.underlying9 rfl) ?_
      refine OpsW.q rfl (q_addI rfl rfl (by omega)) ?_
      refine OpsW.q rfl (o_call rfl Tryz.func30 rfl rfl (headR_con _ _ (by omega))) ?_
      rw [show headP 23 (((bxInner kind plain pad).length : Int) + 16) = bxHead kind plain pad from rfl]
      have hhl := bxHead_length kind plain pad
      refine OpsW.q rfl (q_assign (v := S _) rfl) ?_
      refine OpsW.nil ?_
      refine SeqP.go ?_
      refine AW.seq ?_
      refine AW.drawK [] 16 rfl (by kernel_rfl) ?_
      refine SeqK.q rfl (q_move (v := .pointer _) rfl) ?_
      refine SeqK.q rfl (q_nilCheck rfl) ?_
      refine SeqK.q rfl (q_fieldAddr (sz := 0) Tryz.underlying40 rfl (by kernel_rfl) rfl) ?_
      refine SeqK.q rfl (q_load (v := .int _ _) (by kernel_rfl) rfl (hS19.blk at2) rfl) ?_
      refine SeqK.q rfl (q_move (v := .pointer _) rfl) ?_
      refine SeqK.q rfl (q_nilCheck rfl) ?_
      refine SeqK.q rfl (q_fieldAddr (sz := 0) Tryz.underlying40 rfl (by kernel_rfl) rfl) ?_
      refine SeqK.q rfl (q_load (v := S _) (by kernel_rfl) rfl (hS19.blk at2) rfl) ?_
      refine SeqK.q rfl (q_move (v := S _) rfl) ?_
      refine SeqK.q rfl (q_move (v := S _) rfl) ?_
      refine SeqK.q rfl (q_move (v := S _) rfl) ?_
      refine SeqK.q rfl (o_call rfl Tryz.func8 rfl rfl (sSealR_con (by omega) (by omega))) ?_
      refine SeqK.q rfl (q_move (v := .tuple _) rfl) ?_
      rw [← hbs]
      refine SeqK.q rfl (q_extract (v := S _) rfl rfl) ?_
      refine SeqK.q rfl (q_extract (v := .int _ _) rfl rfl) ?_
      refine SeqK.q rfl (q_assign (v := S _) rfl) ?_
      refine SeqK.done ?_
      refine OpsW.q rfl (q_assign (v := .int _ _) rfl) ?_
      refine OpsW.nil ?_
      refine SeqP.go ?_
      refine AW.seq ?_
      refine AW.region ?_
      refine OpsW.q rfl (q_move (v := .pointer _) rfl) ?_
      refine OpsW.q rfl (q_move (v := .pointer _) rfl) ?_
      refine OpsW.q rfl (q_nilCheck rfl) ?_
      refine OpsW.q rfl (q_fieldAddr (sz := 0) Tryz.underlying40 rfl (by kernel_rfl) rfl) ?_
      refine OpsW.q rfl (q_load (v := .int _ _) (by kernel_rfl) rfl (hS19.blk at2) rfl) ?_
      refine OpsW.q rfl (q_addI rfl rfl (by omega)) ?_
      refine OpsW.q rfl (q_nilCheck rfl) ?_
      refine OpsW.q rfl (q_fieldAddr (sz := 0) Tryz.underlying40 rfl (by kernel_rfl) rfl) ?_
      refine OpsW.ms (s_storeC (v := .int _ _) hS19 at2 (by kernel_rfl) rfl rfl rfl (by simp; done)) ?_
      rintro _ H21 ⟨rfl, hS21⟩
      clear hS19
      refine OpsW.nil ?_
      refine SeqP.go ?_
      refine AW.seq ?_
      refine AW.region ?_
      refine OpsW.q rfl (q_move (v := S _) rfl) ?_
      refine OpsW.q rfl (q_move (v := S _) rfl) ?_
      refine OpsW.q rfl (q_cat rfl rfl (by omega)) ?_
      refine OpsW.q rfl (q_assign (v := S _) rfl) ?_
      refine OpsW.q rfl (q_assign (v := .int _ _) rfl) ?_
      refine OpsW.nil ?_
      refine SeqP.go ?_
      refine AW.ret ?_
      refine RetP.mk2 (H' := _) (v1 := S _) (v2 := .int _ _) rfl rfl rfl  (Hp.le_refl _) ?_
      rw [e1, e2]
      exact ⟨rfl, hS21.tail.tail⟩
    ·
     rintro _ _ ⟨rfl, rfl⟩
     refine AnyW.onlyQ 4 rfl (by kernel_rfl) rfl (dst_lt rfl) (q_stringVec (hS19.vec at0) Tryz.underlying35 Tryz.underlying5 Tryz.underlying9 rfl) ?_
     refine AnyW.onlyQ 5 rfl (by kernel_rfl) rfl (dst_lt rfl) (q_cat rfl rfl (by simp only [nums_length, List.length_set, List.length_replicate, List.length_take, List.length_drop, List.length_append, List.length_cons, List.length_nil, ofB_length, toB_length]; omega)) ?_
     refine AnyW.onlyQ 9 rfl (by kernel_rfl) rfl (dst_lt rfl) (q_cat rfl rfl (by simp only [nums_length, List.length_set, List.length_replicate, List.length_take, List.length_drop, List.length_append, List.length_cons, List.length_nil, ofB_length, toB_length]; omega)) ?_
     rw [show plain ++ toB [IntKind.u8.wrap kind] ++ toB (List.replicate pad.toNat 0) = bxInner kind plain pad from by rw [show toB (List.replicate pad.toNat 0) = List.replicate pad.toNat 0 from by simp [toB]]; rfl]
     refine AnyW.onlyQ 10 rfl (by kernel_rfl) rfl (dst_lt rfl) (q_assign (v := S _) rfl) ?_
     refine AnyW.done (by kernel_rfl) ?_
     refine SeqP.go ?_
     refine AW.seq ?_
     refine AW.drawK [] 13 rfl (by kernel_rfl) ?_
     refine SeqK.q rfl (q_move (v := .pointer _) rfl) ?_
     refine SeqK.q rfl (q_nilCheck rfl) ?_
     refine SeqK.q rfl (q_fieldAddr (sz := 0) Tryz.underlying40 rfl (by kernel_rfl) rfl) ?_
     refine SeqK.q rfl (q_load (v := S _) (by kernel_rfl) rfl (hS19.blk at2) rfl) ?_
     refine SeqK.q rfl (q_move (v := .pointer _) rfl) ?_
     refine SeqK.q rfl (q_nilCheck rfl) ?_
     refine SeqK.q rfl (q_fieldAddr (sz := 0) Tryz.underlying40 rfl (by kernel_rfl) rfl) ?_
     refine SeqK.q rfl (q_load (v := .int _ _) (by kernel_rfl) rfl (hS19.blk at2) rfl) ?_
     refine SeqK.q rfl (o_call rfl Tryz.func28 rfl rfl (NonceR_con (by omega))) ?_
     refine SeqK.q rfl (q_move (v := .tuple _) rfl) ?_
     rw [nonceP_ok hb2 (by omega)]
     refine SeqK.q rfl (q_extract (v := S _) rfl rfl) ?_
     refine SeqK.q rfl (q_extract (v := .int _ _) rfl rfl) ?_
     refine SeqK.q rfl (q_assign (v := S _) rfl) ?_
     refine SeqK.done ?_
     refine OpsW.q rfl (q_assign (v := .int _ _) rfl) ?_
     refine OpsW.nil ?_
     refine SeqP.go ?_
     refine AW.seq ?_
     refine AW.region ?_
     refine OpsW.q rfl (q_move (v := S _) rfl) ?_
     refine OpsW.q rfl (q_lenS Tryz.underlying9 rfl) ?_
     refine OpsW.q rfl (q_addI rfl rfl (by omega)) ?_
     refine OpsW.q rfl (o_call rfl Tryz.func30 rfl rfl (headR_con _ _ (by omega))) ?_
     rw [show headP 23 (((bxInner kind plain pad).length : Int) + 16) = bxHead kind plain pad from rfl]
     have hhl := bxHead_length kind plain pad
     refine OpsW.q rfl (q_assign (v := S _) rfl) ?_
     refine OpsW.nil ?_
     refine SeqP.go ?_
     refine AW.seq ?_
     refine AW.drawK [] 16 rfl (by kernel_rfl) ?_
     refine SeqK.q rfl (q_move (v := .pointer _) rfl) ?_
     refine SeqK.q rfl (q_nilCheck rfl) ?_
     refine SeqK.q rfl (q_fieldAddr (sz := 0) Tryz.underlying40 rfl (by kernel_rfl) rfl) ?_
     refine SeqK.q rfl (q_load (v := .int _ _) (by kernel_rfl) rfl (hS19.blk at2) rfl) ?_
     refine SeqK.q rfl (q_move (v := .pointer _) rfl) ?_
     refine SeqK.q rfl (q_nilCheck rfl) ?_
     refine SeqK.q rfl (q_fieldAddr (sz := 0) Tryz.underlying40 rfl (by kernel_rfl) rfl) ?_
     refine SeqK.q rfl (q_load (v := S _) (by kernel_rfl) rfl (hS19.blk at2) rfl) ?_
     refine SeqK.q rfl (q_move (v := S _) rfl) ?_
     refine SeqK.q rfl (q_move (v := S _) rfl) ?_
     refine SeqK.q rfl (q_move (v := S _) rfl) ?_
     refine SeqK.q rfl (o_call rfl Tryz.func8 rfl rfl (sSealR_con (by omega) (by omega))) ?_
     refine SeqK.q rfl (q_move (v := .tuple _) rfl) ?_
     rw [← hbs]
     refine SeqK.q rfl (q_extract (v := S _) rfl rfl) ?_
     refine SeqK.q rfl (q_extract (v := .int _ _) rfl rfl) ?_
     refine SeqK.q rfl (q_assign (v := S _) rfl) ?_
     refine SeqK.done ?_
     refine OpsW.q rfl (q_assign (v := .int _ _) rfl) ?_
     refine OpsW.nil ?_
     refine SeqP.go ?_
     refine AW.seq ?_
     refine AW.region ?_
     refine OpsW.q rfl (q_move (v := .pointer _) rfl) ?_
     refine OpsW.q rfl (q_move (v := .pointer _) rfl) ?_
     refine OpsW.q rfl (q_nilCheck rfl) ?_
     refine OpsW.q rfl (q_fieldAddr (sz := 0) Tryz.underlying40 rfl (by kernel_rfl) rfl) ?_
     refine OpsW.q rfl (q_load (v := .int _ _) (by kernel_rfl) rfl (hS19.blk at2) rfl) ?_
     refine OpsW.q rfl (q_addI rfl rfl (by omega)) ?_
     refine OpsW.q rfl (q_nilCheck rfl) ?_
     refine OpsW.q rfl (q_fieldAddr (sz := 0) Tryz.underlying40 rfl (by kernel_rfl) rfl) ?_
     refine OpsW.ms (s_storeC (v := .int _ _) hS19 at2 (by kernel_rfl) rfl rfl rfl (by simp; done)) ?_
     rintro _ H22 ⟨rfl, hS22⟩
     clear hS19
     refine OpsW.nil ?_
     refine SeqP.go ?_
     refine AW.seq ?_
     refine AW.region ?_
     refine OpsW.q rfl (q_move (v := S _) rfl) ?_
     refine OpsW.q rfl (q_move (v := S _) rfl) ?_
     refine OpsW.q rfl (q_cat rfl rfl (by omega)) ?_
     refine OpsW.q rfl (q_assign (v := S _) rfl) ?_
     refine OpsW.q rfl (q_assign (v := .int _ _) rfl) ?_
     refine OpsW.nil ?_
     refine SeqP.go ?_
     refine AW.ret ?_
     refine RetP.mk2 (H' := _) (v1 := S _) (v2 := .int _ _) rfl rfl rfl  (Hp.le_refl _) ?_
     rw [e1, e2]
     exact ⟨rfl, hS22.tail.tail⟩
   ·
    rintro _ _ ⟨rfl, rfl⟩
    refine AnyW.only 3 rfl (by kernel_rfl) rfl (dst_lt rfl) (s_buildSlice (z := .int .u8 0) (vs := nums .u8 [_]) hS18 Tryz.underlying35 (by kernel_rfl) (by kernel_rfl) rfl (by rfl) (by rfl) (by decide) rfl (nums_one _ _) rfl) ?_
    rintro v45 H23 hS23
    clear hS18
    refine AnyW.onlyQ 4 rfl (by kernel_rfl) rfl (dst_lt rfl) (q_stringVec (hS23.vec at0) Tryz.underlying35 Tryz.underlying5 Tryz.underlying9 rfl) ?_
    refine AnyW.onlyQ 5 rfl (by kernel_rfl) rfl (dst_lt rfl) (q_cat rfl rfl (by simp only [nums_length, List.length_set, List.length_replicate, List.length_take, List.length_drop, List.length_append, List.length_cons, List.length_nil, ofB_length, toB_length]; omega)) ?_
    refine AnyW.onlyQ 9 rfl (by kernel_rfl) rfl (dst_lt rfl) (q_cat rfl rfl (by simp only [nums_length, List.length_set, List.length_replicate, List.length_take, List.length_drop, List.length_append, List.length_cons, List.length_nil, ofB_length, toB_length]; omega)) ?_
    rw [show plain ++ toB [IntKind.u8.wrap kind] ++ toB (List.replicate pad.toNat 0) = bxInner kind plain pad from by rw [show toB (List.replicate pad.toNat 0) = List.replicate pad.toNat 0 from by simp [toB]]; rfl]
    refine AnyW.onlyQ 10 rfl (by kernel_rfl) rfl (dst_lt rfl) (q_assign (v := S _) rfl) ?_
    refine AnyW.done (by kernel_rfl) ?_
    refine SeqP.go ?_
    refine AW.seq ?_
    refine AW.drawK [] 13 rfl (by kernel_rfl) ?_
    refine SeqK.q rfl (q_move (v := .pointer _) rfl) ?_
    refine SeqK.q rfl (q_nilCheck rfl) ?_
    refine SeqK.q rfl (q_fieldAddr (sz := 0) Tryz.underlying40 rfl (by kernel_rfl) rfl) ?_
    refine SeqK.q rfl (q_load (v := S _) (by kernel_rfl) rfl (hS23.blk at2) rfl) ?_
    refine SeqK.q rfl (q_move (v := .pointer _) rfl) ?_
    refine SeqK.q rfl (q_nilCheck rfl) ?_
    refine SeqK.q rfl (q_fieldAddr (sz := 0) Tryz.underlying40 rfl (by kernel_rfl) rfl) ?_
    refine SeqK.q rfl (q_load (v := .int _ _) (by kernel_rfl) rfl (hS23.blk at2) rfl) ?_
    refine SeqK.q rfl (o_call rfl Tryz.func28 rfl rfl (NonceR_con (by omega))) ?_
    refine SeqK.q rfl (q_move (v := .tuple _) rfl) ?_
    rw [nonceP_ok hb2 (by omega)]
    refine SeqK.q rfl (q_extract (v := S _) rfl rfl) ?_
    refine SeqK.q rfl (q_extract (v := .int _ _) rfl rfl) ?_
    refine SeqK.q rfl (q_assign (v := S _) rfl) ?_
    refine SeqK.done ?_
    refine OpsW.q rfl (q_assign (v := .int _ _) rfl) ?_
    refine OpsW.nil ?_
    refine SeqP.go ?_
    refine AW.seq ?_
    refine AW.region ?_
    refine OpsW.q rfl (q_move (v := S _) rfl) ?_
    refine OpsW.q rfl (q_lenS Tryz.underlying9 rfl) ?_
    refine OpsW.q rfl (q_addI rfl rfl (by omega)) ?_
    refine OpsW.q rfl (o_call rfl Tryz.func30 rfl rfl (headR_con _ _ (by omega))) ?_
    rw [show headP 23 (((bxInner kind plain pad).length : Int) + 16) = bxHead kind plain pad from rfl]
    have hhl := bxHead_length kind plain pad
    refine OpsW.q rfl (q_assign (v := S _) rfl) ?_
    refine OpsW.nil ?_
    refine SeqP.go ?_
    refine AW.seq ?_
    refine AW.drawK [] 16 rfl (by kernel_rfl) ?_
    refine SeqK.q rfl (q_move (v := .pointer _) rfl) ?_
    refine SeqK.q rfl (q_nilCheck rfl) ?_
    refine SeqK.q rfl (q_fieldAddr (sz := 0) Tryz.underlying40 rfl (by kernel_rfl) rfl) ?_
    refine SeqK.q rfl (q_load (v := .int _ _) (by kernel_rfl) rfl (hS23.blk at2) rfl) ?_
    refine SeqK.q rfl (q_move (v := .pointer _) rfl) ?_
    refine SeqK.q rfl (q_nilCheck rfl) ?_
    refine SeqK.q rfl (q_fieldAddr (sz := 0) Tryz.underlying40 rfl (by kernel_rfl) rfl) ?_
    refine SeqK.q rfl (q_load (v := S _) (by kernel_rfl) rfl (hS23.blk at2) rfl) ?_
    refine SeqK.q rfl (q_move (v := S _) rfl) ?_
    refine SeqK.q rfl (q_move (v := S _) rfl) ?_
    refine SeqK.q rfl (q_move (v := S _) rfl) ?_
    refine SeqK.q rfl (o_call rfl Tryz.func8 rfl rfl (sSealR_con (by omega) (by omega))) ?_
    refine SeqK.q rfl (q_move (v := .tuple _) rfl) ?_
    rw [← hbs]
    refine SeqK.q rfl (q_extract (v := S _) rfl rfl) ?_
    refine SeqK.q rfl (q_extract (v := .int _ _) rfl rfl) ?_
    refine SeqK.q rfl (q_assign (v := S _) rfl) ?_
    refine SeqK.done ?_
    refine OpsW.q rfl (q_assign (v := .int _ _) rfl) ?_
    refine OpsW.nil ?_
    refine SeqP.go ?_
    refine AW.seq ?_
    refine AW.region ?_
    refine OpsW.q rfl (q_move (v := .pointer _) rfl) ?_
    refine OpsW.q rfl (q_move (v := .pointer _) rfl) ?_
    refine OpsW.q rfl (q_nilCheck rfl) ?_
    refine OpsW.q rfl (q_fieldAddr (sz := 0) Tryz.underlying40 rfl (by kernel_rfl) rfl) ?_
    refine OpsW.q rfl (q_load (v := .int _ _) (by kernel_rfl) rfl (hS23.blk at2) rfl) ?_
    refine OpsW.q rfl (q_addI rfl rfl (by omega)) ?_
    refine OpsW.q rfl (q_nilCheck rfl) ?_
    refine OpsW.q rfl (q_fieldAddr (sz := 0) Tryz.underlying40 rfl (by kernel_rfl) rfl) ?_
    refine OpsW.ms (s_storeC (v := .int _ _) hS23 at2 (by kernel_rfl) rfl rfl rfl (by simp; done)) ?_
    rintro _ H24 ⟨rfl, hS24⟩
    clear hS23
    refine OpsW.nil ?_
    refine SeqP.go ?_
    refine AW.seq ?_
    refine AW.region ?_
    refine OpsW.q rfl (q_move (v := S _) rfl) ?_
    refine OpsW.q rfl (q_move (v := S _) rfl) ?_
    refine OpsW.q rfl (q_cat rfl rfl (by omega)) ?_
    refine OpsW.q rfl (q_assign (v := S _) rfl) ?_
    refine OpsW.q rfl (q_assign (v := .int _ _) rfl) ?_
    refine OpsW.nil ?_
    refine SeqP.go ?_
    refine AW.ret ?_
    refine RetP.mk2 (H' := _) (v1 := S _) (v2 := .int _ _) rfl rfl rfl  (Hp.le_refl _) ?_
    rw [e1, e2]
    exact ⟨rfl, hS24.tail.tail⟩
  ·
   rintro _ _ ⟨rfl, rfl⟩
   refine AnyW.onlyQ 2 rfl (by kernel_rfl) rfl (dst_lt rfl) (q_convInt rfl Tryz.underlying5 rfl) ?_
   refine AnyW.only 3 rfl (by kernel_rfl) rfl (dst_lt rfl) (s_buildSlice (z := .int .u8 0) (vs := nums .u8 [_]) hS18 Tryz.underlying35 (by kernel_rfl) (by kernel_rfl) rfl (by rfl) (by rfl) (by decide) rfl (nums_one _ _) rfl) ?_
   rintro v45 H25 hS25
   clear hS18
   refine AnyW.onlyQ 4 rfl (by kernel_rfl) rfl (dst_lt rfl) (q_stringVec (hS25.vec at0) Tryz.underlying35 Tryz.underlying5 Tryz.underlying9 rfl) ?_
   refine AnyW.onlyQ 5 rfl (by kernel_rfl) rfl (dst_lt rfl) (q_cat rfl rfl (by simp only [nums_length, List.length_set, List.length_replicate, List.length_take, List.length_drop, List.length_append, List.length_cons, List.length_nil, ofB_length, toB_length]; omega)) ?_
   refine AnyW.onlyQ 9 rfl (by kernel_rfl) rfl (dst_lt rfl) (q_cat rfl rfl (by simp only [nums_length, List.length_set, List.length_replicate, List.length_take, List.length_drop, List.length_append, List.length_cons, List.length_nil, ofB_length, toB_length]; omega)) ?_
   rw [show plain ++ toB [IntKind.u8.wrap kind] ++ toB (List.replicate pad.toNat 0) = bxInner kind plain pad from by rw [show toB (List.replicate pad.toNat 0) = List.replicate pad.toNat 0 from by simp [toB]]; rfl]
   refine AnyW.onlyQ 10 rfl (by kernel_rfl) rfl (dst_lt rfl) (q_assign (v := S _) rfl) ?_
   refine AnyW.done (by kernel_rfl) ?_
   refine SeqP.go ?_
   refine AW.seq ?_
   refine AW.drawK [] 13 rfl (by kernel_rfl) ?_
   refine SeqK.q rfl (q_move (v := .pointer _) rfl) ?_
   refine SeqK.q rfl (q_nilCheck rfl) ?_
   refine SeqK.q rfl (q_fieldAddr (sz := 0) Tryz.underlying40 rfl (by kernel_rfl) rfl) ?_
   refine SeqK.q rfl (q_load (v := S _) (by kernel_rfl) rfl (hS25.blk at2) rfl) ?_
   refine SeqK.q rfl (q_move (v := .pointer _) rfl) ?_
   refine SeqK.q rfl (q_nilCheck rfl) ?_
   refine SeqK.q rfl (q_fieldAddr (sz := 0) Tryz.underlying40 rfl (by kernel_rfl) rfl) ?_
   refine SeqK.q rfl (q_load (v := .int _ _) (by kernel_rfl) rfl (hS25.blk at2) rfl) ?_
   refine SeqK.q rfl (o_call rfl Tryz.func28 rfl rfl (NonceR_con (by omega))) ?_
   refine SeqK.q rfl (q_move (v := .tuple _) rfl) ?_
   rw [nonceP_ok hb2 (by omega)]
   refine SeqK.q rfl (q_extract (v := S _) rfl rfl) ?_
   refine SeqK.q rfl (q_extract (v := .int _ _) rfl rfl) ?_
   refine SeqK.q rfl (q_assign (v := S _) rfl) ?_
   refine SeqK.done ?_
   refine OpsW.q rfl (q_assign (v := .int _ _) rfl) ?_
   refine OpsW.nil ?_
   refine SeqP.go ?_
   refine AW.seq ?_
   refine AW.region ?_
   refine OpsW.q rfl (q_move (v := S _) rfl) ?_
   refine OpsW.q rfl (q_lenS Tryz.underlying9 rfl) ?_
   refine OpsW.q rfl (q_addI rfl rfl (by omega)) ?_
   refine OpsW.q rfl (o_call rfl Tryz.func30 rfl rfl (headR_con _ _ (by omega))) ?_
   rw [show headP 23 (((bxInner kind plain pad).length : Int) + 16) = bxHead kind plain pad from rfl]
   have hhl := bxHead_length kind plain pad
   refine OpsW.q rfl (q_assign (v := S _) rfl) ?_
   refine OpsW.nil ?_
   refine SeqP.go ?_
   refine AW.seq ?_
   refine AW.drawK [] 16 rfl (by kernel_rfl) ?_
   refine SeqK.q rfl (q_move (v := .pointer _) rfl) ?_
   refine SeqK.q rfl (q_nilCheck rfl) ?_
   refine SeqK.q rfl (q_fieldAddr (sz := 0) Tryz.underlying40 rfl (by kernel_rfl) rfl) ?_
   refine SeqK.q rfl (q_load (v := .int _ _) (by kernel_rfl) rfl (hS25.blk at2) rfl) ?_
   refine SeqK.q rfl (q_move (v := .pointer _) rfl) ?_
   refine SeqK.q rfl (q_nilCheck rfl) ?_
   refine SeqK.q rfl (q_fieldAddr (sz := 0) Tryz.underlying40 rfl (by kernel_rfl) rfl) ?_
   refine SeqK.q rfl (q_load (v := S _) (by kernel_rfl) rfl (hS25.blk at2) rfl) ?_
   refine SeqK.q rfl (q_move (v := S _) rfl) ?_
   refine SeqK.q rfl (q_move (v := S _) rfl) ?_
   refine SeqK.q rfl (q_move (v := S _) rfl) ?_
   refine SeqK.q rfl (o_call rfl Tryz.func8 rfl rfl (sSealR_con (by omega) (by omega))) ?_
   refine SeqK.q rfl (q_move (v := .tuple _) rfl) ?_
   rw [← hbs]
   refine SeqK.q rfl (q_extract (v := S _) rfl rfl) ?_
   refine SeqK.q rfl (q_extract (v := .int _ _) rfl rfl) ?_
   refine SeqK.q rfl (q_assign (v := S _) rfl) ?_
   refine SeqK.done ?_
   refine OpsW.q rfl (q_assign (v := .int _ _) rfl) ?_
   refine OpsW.nil ?_
   refine SeqP.go ?_
   refine AW.seq ?_
   refine AW.region ?_
   refine OpsW.q rfl (q_move (v := .pointer _) rfl) ?_
   refine OpsW.q rfl (q_move (v := .pointer _) rfl) ?_
   refine OpsW.q rfl (q_nilCheck rfl) ?_
   refine OpsW.q rfl (q_fieldAddr (sz := 0) Tryz.underlying40 rfl (by kernel_rfl) rfl) ?_
   refine OpsW.q rfl (q_load (v := .int _ _) (by kernel_rfl) rfl (hS25.blk at2) rfl) ?_
   refine OpsW.q rfl (q_addI rfl rfl (by omega)) ?_
   refine OpsW.q rfl (q_nilCheck rfl) ?_
   refine OpsW.q rfl (q_fieldAddr (sz := 0) Tryz.underlying40 rfl (by kernel_rfl) rfl) ?_
   refine OpsW.ms (s_storeC (v := .int _ _) hS25 at2 (by kernel_rfl) rfl rfl rfl (by simp; done)) ?_
   rintro _ H26 ⟨rfl, hS26⟩
   clear hS25
   refine OpsW.nil ?_
   refine SeqP.go ?_
   refine AW.seq ?_
   refine AW.region ?_
   refine OpsW.q rfl (q_move (v := S _) rfl) ?_
   refine OpsW.q rfl (q_move (v := S _) rfl) ?_
   refine OpsW.q rfl (q_cat rfl rfl (by omega)) ?_
   refine OpsW.q rfl (q_assign (v := S _) rfl) ?_
   refine OpsW.q rfl (q_assign (v := .int _ _) rfl) ?_
   refine OpsW.nil ?_
   refine SeqP.go ?_
   refine AW.ret ?_
   refine RetP.mk2 (H' := _) (v1 := S _) (v2 := .int _ _) rfl rfl rfl  (Hp.le_refl _) ?_
   rw [e1, e2]
   exact ⟨rfl, hS26.tail.tail⟩
theorem bOpenR_s {b : Nat} {x : BoxS} {body : List UInt8} (hS0 : Sep H0 [.blk b (rbxBlk x)] H) (hbok : BoxOk x) : Con Tryz.prog w0 10 #[.pointer (some ⟨b, 0, none⟩), S body] H (fun v H' => v = .tuple #[.int .i64 (bxOpen x body).1, S (bxOpen x body).2.1, .int .i64 (bxOpen x body).2.2] ∧ Sep H0 [.blk b (rbxBlk (bxNext x body))] H') := by
 obtain ⟨hb1, hb2, hn0, hn1⟩ := hbok
 replace hS0 : Sep H0 [.blk b ⟨[.int .i64 x.suite, S x.key, S x.iv, .int .i64 x.n], 4, 40⟩] H := hS0
 refine Con.intro Tryz.func10 rfl rfl ?_
 refine AW.seq ?_
 refine AW.region ?_
 refine OpsW.q rfl (q_assign (v := .int _ _) rfl) ?_
 refine OpsW.q rfl (q_assign (v := S _) rfl) ?_
 refine OpsW.q rfl (q_assign (v := .int _ _) rfl) ?_
 refine OpsW.nil ?_
 refine SeqP.go ?_
 refine AW.seq ?_
 refine AW.seq ?_
 refine AW.region ?_
 refine OpsW.q rfl (q_move (v := .pointer _) rfl) ?_
 refine OpsW.q rfl (q_nilCheck rfl) ?_
 refine OpsW.q rfl (q_fieldAddr (sz := 0) Tryz.underlying40 rfl (by kernel_rfl) rfl) ?_
 refine OpsW.q rfl (q_load (v := .int _ _) (by kernel_rfl) rfl (hS0.blk at0) rfl) ?_
 refine OpsW.q rfl (q_geq rfl rfl) ?_
 refine OpsW.nil ?_
 refine SeqP.go ?_
 refine AW.cond rfl (fun h0 => ?_) (fun h0 => ?_)
 ·
  try simp only [z1, z2, z3, z4, z5, z6, z7, z8, z9, z10, z11, z12, z13, z14] at h0
  obtain ⟨e1, e2⟩ := bo_seq (x := x) (body := body) (by omega)
  rw [e1, e2]
  refine AW.seq ?_
  refine AW.region ?_
  refine OpsW.q rfl (q_assign (v := .int _ _) rfl) ?_
  refine OpsW.q rfl (q_assign (v := S _) rfl) ?_
  refine OpsW.q rfl (q_assign (v := .int _ _) rfl) ?_
  refine OpsW.nil ?_
  refine SeqP.go ?_
  refine AW.ret ?_
  refine SeqP.ret ?_
  refine RetP.mk3 (H' := H) (v1 := .int _ _) (v2 := S _) (v3 := .int _ _) rfl rfl rfl rfl  (Hp.le_refl _) ?_
  exact ⟨rfl, hS0⟩
 try simp only [z1, z2, z3, z4, z5, z6, z7, z8, z9, z10, z11, z12, z13, z14] at h0
 have hn : x.n < 65536 := by omega
 refine AW.skip ?_
 refine SeqP.go ?_
 refine AW.seq ?_
 refine AW.seq ?_
 refine AW.region ?_
 refine OpsW.q rfl (q_move (v := S _) rfl) ?_
 refine OpsW.q rfl (q_lenS Tryz.underlying9 rfl) ?_
 refine OpsW.q rfl (q_gtr rfl rfl) ?_
 refine OpsW.nil ?_
 refine SeqP.go ?_
 refine AW.cond rfl (fun h1 => ?_) (fun h1 => ?_)
 ·
  try simp only [z1, z2, z3, z4, z5, z6, z7, z8, z9, z10, z11, z12, z13, z14] at h1
  obtain ⟨e1, e2⟩ := bo_long (x := x) (body := body) hn (by omega)
  rw [e1, e2]
  refine AW.seq ?_
  refine AW.region ?_
  refine OpsW.q rfl (q_assign (v := .int _ _) rfl) ?_
  refine OpsW.q rfl (q_assign (v := S _) rfl) ?_
  refine OpsW.q rfl (q_assign (v := .int _ _) rfl) ?_
  refine OpsW.nil ?_
  refine SeqP.go ?_
  refine AW.ret ?_
  refine SeqP.ret ?_
  refine RetP.mk3 (H' := H) (v1 := .int _ _) (v2 := S _) (v3 := .int _ _) rfl rfl rfl rfl  (Hp.le_refl _) ?_
  exact ⟨rfl, hS0⟩
 try simp only [z1, z2, z3, z4, z5, z6, z7, z8, z9, z10, z11, z12, z13, z14] at h1
 have hshort : ¬ 16640 < body.length := by omega
 have hhl := headP_length 23 (body.length : Int)
 have hrl := bxRaw_length (body := body) ⟨hb1, hb2, hn0, hn1⟩ hn
 refine AW.skip ?_
 refine SeqP.go ?_
 refine AW.seq ?_
 refine AW.drawK [] 13 rfl (by kernel_rfl) ?_
 refine SeqK.q rfl (q_move (v := .pointer _) rfl) ?_
 refine SeqK.q rfl (q_nilCheck rfl) ?_
 refine SeqK.q rfl (q_fieldAddr (sz := 0) Tryz.underlying40 rfl (by kernel_rfl) rfl) ?_
 refine SeqK.q rfl (q_load (v := S _) (by kernel_rfl) rfl (hS0.blk at0) rfl) ?_
 refine SeqK.q rfl (q_move (v := .pointer _) rfl) ?_
 refine SeqK.q rfl (q_nilCheck rfl) ?_
 refine SeqK.q rfl (q_fieldAddr (sz := 0) Tryz.underlying40 rfl (by kernel_rfl) rfl) ?_
 refine SeqK.q rfl (q_load (v := .int _ _) (by kernel_rfl) rfl (hS0.blk at0) rfl) ?_
 refine SeqK.q rfl (o_call rfl Tryz.func28 rfl rfl (NonceR_con (by omega))) ?_
 refine SeqK.q rfl (q_move (v := .tuple _) rfl) ?_
 rw [nonceP_ok hb2 (by omega)]
 refine SeqK.q rfl (q_extract (v := S _) rfl rfl) ?_
 refine SeqK.q rfl (q_extract (v := .int _ _) rfl rfl) ?_
 refine SeqK.q rfl (q_assign (v := S _) rfl) ?_
 refine SeqK.done ?_
 refine OpsW.q rfl (q_assign (v := .int _ _) rfl) ?_
 refine OpsW.nil ?_
 refine SeqP.go ?_
 refine AW.seq ?_
 refine AW.drawK [] 18 rfl (by kernel_rfl) ?_
 refine SeqK.q rfl (q_move (v := .pointer _) rfl) ?_
 refine SeqK.q rfl (q_nilCheck rfl) ?_
 refine SeqK.q rfl (q_fieldAddr (sz := 0) Tryz.underlying40 rfl (by kernel_rfl) rfl) ?_
 refine SeqK.q rfl (q_load (v := .int _ _) (by kernel_rfl) rfl (hS0.blk at0) rfl) ?_
 refine SeqK.q rfl (q_move (v := .pointer _) rfl) ?_
 refine SeqK.q rfl (q_nilCheck rfl) ?_
 refine SeqK.q rfl (q_fieldAddr (sz := 0) Tryz.underlying40 rfl (by kernel_rfl) rfl) ?_
 refine SeqK.q rfl (q_load (v := S _) (by kernel_rfl) rfl (hS0.blk at0) rfl) ?_
 refine SeqK.q rfl (q_move (v := S _) rfl) ?_
 refine SeqK.q rfl (q_move (v := S _) rfl) ?_
 refine SeqK.q rfl (q_lenS Tryz.underlying9 rfl) ?_
 refine SeqK.q rfl (o_call rfl Tryz.func30 rfl rfl (headR_con _ _ (by omega))) ?_
 refine SeqK.q rfl (q_move (v := S _) rfl) ?_
 refine SeqK.q rfl (o_call rfl Tryz.func29 rfl rfl (sOpenR_con (by omega) (by omega))) ?_
 refine SeqK.q rfl (q_move (v := .tuple _) rfl) ?_
 rw [show slOpen x.suite x.key (nonceB x.iv x.n) (headP 23 (body.length : Int)) body = bxRaw x body from rfl]
 refine SeqK.q rfl (q_extract (v := S _) rfl rfl) ?_
 refine SeqK.q rfl (q_extract (v := .int _ _) rfl rfl) ?_
 refine SeqK.q rfl (q_assign (v := S _) rfl) ?_
 refine SeqK.done ?_
 refine OpsW.q rfl (q_assign (v := .int _ _) rfl) ?_
 refine OpsW.nil ?_
 refine SeqP.go ?_
 refine AW.seq ?_
 refine AW.seq ?_
 refine AW.region ?_
 refine OpsW.q rfl (q_move (v := .int _ _) rfl) ?_
 refine OpsW.q rfl (q_neq rfl rfl) ?_
 refine OpsW.nil ?_
 refine SeqP.go ?_
 refine AW.cond rfl (fun h2 => ?_) (fun h2 => ?_)
 ·
  try simp only [z1, z2, z3, z4, z5, z6, z7, z8, z9, z10, z11, z12, z13, z14] at h2
  obtain ⟨e1, e2⟩ := bo_bad hn hshort h2
  rw [e1, e2]
  refine AW.seq ?_
  refine AW.region ?_
  refine OpsW.q rfl (q_move (v := .int _ _) rfl) ?_
  refine OpsW.q rfl (q_assign (v := .int _ _) rfl) ?_
  refine OpsW.q rfl (q_assign (v := S _) rfl) ?_
  refine OpsW.q rfl (q_assign (v := .int _ _) rfl) ?_
  refine OpsW.nil ?_
  refine SeqP.go ?_
  refine AW.ret ?_
  refine SeqP.ret ?_
  refine RetP.mk3 (H' := H) (v1 := .int _ _) (v2 := S _) (v3 := .int _ _) rfl rfl rfl rfl  (Hp.le_refl _) ?_
  exact ⟨rfl, hS0⟩
 try simp only [z1, z2, z3, z4, z5, z6, z7, z8, z9, z10, z11, z12, z13, z14] at h2
 have hrz : (bxRaw x body).2 = 0 := by simpa using h2
 refine AW.skip ?_
 refine SeqP.go ?_
 refine AW.seq ?_
 refine AW.region ?_
 refine OpsW.q rfl (q_move (v := S _) rfl) ?_
 refine OpsW.q rfl (q_lenS Tryz.underlying9 rfl) ?_
 refine OpsW.q rfl (q_assign (v := .int _ _) rfl) ?_
 refine OpsW.nil ?_
 refine SeqP.go ?_
 refine AW.seq ?_
 refine AW.block ?_
 refine AW.loop (fun m_ e_ H_ => ∃ (n : Nat) (e0 : Env), m_ = 1 + n ∧ (n ≤ (bxRaw x body).1.length ∧ ∀ j, n ≤ j → j < (bxRaw x body).1.length → bt (bxRaw x body).1 j = 0) ∧ e_ = upds e0 [(0, .pointer (some ⟨b, 0, none⟩)), (9, S (bxRaw x body).1), (11, .int .i64 (n : Int))] ∧ Sep H0 [.blk b ⟨[.int .i64 x.suite, S x.key, S x.iv, .int .i64 x.n], 4, 40⟩] H_) _ ⟨(bxRaw x body).1.length, _, rfl, ⟨Nat.le_refl _, fun j g1 g2 => by omega⟩, Slots.eq ⟨(by rfl), (by rfl), (by rfl),  trivial⟩, hS0⟩ ?_
 rintro m_ _ Hl0 ⟨n, e0, rfl, ⟨hn2, hn3⟩, rfl, hSl0⟩
 try clear hS0
 refine AW.seq ?_
 refine AW.seq ?_
 refine AW.region ?_
 refine OpsW.q rfl (q_move (v := .int _ _) rfl) ?_
 refine OpsW.q rfl (q_gtr rfl rfl) ?_
 refine OpsW.qb rfl (q_move (v := .bool _) rfl) ?_
 intro b56 eb56
 refine OpsW.g rfl rfl rfl (fun hB => by simp only [Bool.and_eq_true, beq_iff_eq] at hB; obtain rfl := hB; exact (q_move (v := S _) rfl)) ?_
 refine OpsW.g rfl rfl rfl (fun hB => by simp only [Bool.and_eq_true, beq_iff_eq] at hB; obtain rfl := hB; exact (q_move (v := .int _ _) rfl)) ?_
 refine OpsW.g rfl rfl rfl (fun hB => by simp only [Bool.and_eq_true, beq_iff_eq] at hB; obtain rfl := hB; (try simp only [Bool.true_eq, Bool.false_eq, decide_eq_true_eq, Bool.and_eq_true, Bool.or_eq_true, Bool.or_eq_false_iff, Bool.not_eq_true', decide_eq_false_iff_not, Int.not_lt, Int.not_le] at eb56); exact (q_subI rfl rfl (by omega))) ?_
 refine OpsW.g rfl rfl rfl (fun hB => by simp only [Bool.and_eq_true, beq_iff_eq] at hB; obtain rfl := hB; (try simp only [Bool.true_eq, Bool.false_eq, decide_eq_true_eq, Bool.and_eq_true, Bool.or_eq_true, Bool.or_eq_false_iff, Bool.not_eq_true', decide_eq_false_iff_not, Int.not_lt, Int.not_le] at eb56); exact (q_indexS Tryz.underlying9 rfl rfl (by omega) (by omega))) ?_
 refine OpsW.g rfl rfl rfl (fun hB => by simp only [Bool.and_eq_true, beq_iff_eq] at hB; obtain rfl := hB; exact (q_eql rfl rfl)) ?_
 refine OpsW.q rfl (q_and2 rfl rfl rfl) ?_
 refine OpsW.nil ?_
 refine SeqP.go ?_
 refine AW.cond2 rfl (fun h3 => ?_) (fun h3 => ?_)
 ·
  try simp only [eb56, z1, z2, z3, z4, z5, z6, z7, z8, z9, z10, z11, z12, z13, z14] at h3
  refine AW.exit ?_
  refine SeqP.exit ?_
  refine LoopP.exit ?_
  have hstop : 0 < n → ¬ bt (bxRaw x body).1 (n - 1) = 0 := fun g1 g2 => by rw [show n - 1 = ((n : Int) - 1).toNat from by omega] at g2; simp_all
  obtain ⟨hT1, hT2⟩ := tr_facts hn2 hn3 hstop
  refine BlockP.here ?_
  refine SeqP.go ?_
  refine AW.seq ?_
  refine AW.seq ?_
  refine AW.region ?_
  refine OpsW.q rfl (q_move (v := .int _ _) rfl) ?_
  refine OpsW.q rfl (q_eql rfl rfl) ?_
  refine OpsW.qb rfl (q_move (v := .bool _) rfl) ?_
  intro b67 eb67
  refine OpsW.g rfl rfl rfl (fun hB => by simp only [Bool.and_eq_true, beq_iff_eq] at hB; obtain rfl := hB; exact (q_move (v := S _) rfl)) ?_
  refine OpsW.g rfl rfl rfl (fun hB => by simp only [Bool.and_eq_true, beq_iff_eq] at hB; obtain rfl := hB; exact (q_move (v := .int _ _) rfl)) ?_
  refine OpsW.g rfl rfl rfl (fun hB => by simp only [Bool.and_eq_true, beq_iff_eq] at hB; obtain rfl := hB; (try simp only [eb56, Bool.true_eq, Bool.false_eq, decide_eq_true_eq, Bool.and_eq_true, Bool.or_eq_true, Bool.or_eq_false_iff, Bool.not_eq_true', decide_eq_false_iff_not, Int.not_lt, Int.not_le] at eb67); exact (q_subI rfl rfl (by omega))) ?_
  refine OpsW.g rfl rfl rfl (fun hB => by simp only [Bool.and_eq_true, beq_iff_eq] at hB; obtain rfl := hB; (try simp only [eb56, Bool.true_eq, Bool.false_eq, decide_eq_true_eq, Bool.and_eq_true, Bool.or_eq_true, Bool.or_eq_false_iff, Bool.not_eq_true', decide_eq_false_iff_not, Int.not_lt, Int.not_le] at eb67); exact (q_indexS Tryz.underlying9 rfl rfl (by omega) (by omega))) ?_
  refine OpsW.g rfl rfl rfl (fun hB => by simp only [Bool.and_eq_true, beq_iff_eq] at hB; obtain rfl := hB; exact (q_convI64 rfl Tryz.underlying3 rfl (by exact rng_bt _ _))) ?_
  refine OpsW.g rfl rfl rfl (fun hB => by simp only [Bool.and_eq_true, beq_iff_eq] at hB; obtain rfl := hB; exact (o_call rfl Tryz.func31 rfl rfl (IsKindR_con _))) ?_
  refine OpsW.g rfl rfl rfl (fun hB => by simp only [Bool.and_eq_true, beq_iff_eq] at hB; obtain rfl := hB; exact (q_not rfl)) ?_
  refine OpsW.q rfl (q_or2 rfl rfl rfl) ?_
  refine OpsW.nil ?_
  refine SeqP.go ?_
  refine AW.cond rfl (fun h4 => ?_) (fun h4 => ?_)
  ·
   try simp only [eb56, eb67, z1, z2, z3, z4, z5, z6, z7, z8, z9, z10, z11, z12, z13, z14] at h4
   obtain ⟨e1, e2⟩ := bo_none hn hshort hrz (by rcases Nat.eq_zero_or_pos n with g | g; (left; omega); (right; rw [(hT2 g).1]; rcases h4 with q | q; (omega); (exact q)))
   rw [e1, e2]
   refine AW.seq ?_
   refine AW.region ?_
   refine OpsW.q rfl (q_assign (v := .int _ _) rfl) ?_
   refine OpsW.q rfl (q_assign (v := S _) rfl) ?_
   refine OpsW.q rfl (q_assign (v := .int _ _) rfl) ?_
   refine OpsW.nil ?_
   refine SeqP.go ?_
   refine AW.ret ?_
   refine SeqP.ret ?_
   refine RetP.mk3 (H' := Hl0) (v1 := .int _ _) (v2 := S _) (v3 := .int _ _) rfl rfl rfl rfl  (Hp.le_refl _) ?_
   exact ⟨rfl, hSl0⟩
  try simp only [eb56, eb67, z1, z2, z3, z4, z5, z6, z7, z8, z9, z10, z11, z12, z13, z14] at h4
  have hn1 : 0 < n := by rcases Nat.eq_zero_or_pos n with g | g; (simp_all); (exact g)
  have hgd : ¬ (trN (bxRaw x body).1 < 0 ∨ isK (bt (trZ (bxRaw x body).1) (trN (bxRaw x body).1).toNat) = false) := by rw [(hT2 hn1).1, hT1]; simp_all <;> omega
  refine AW.skip ?_
  refine SeqP.go ?_
  refine AW.seq ?_
  refine AW.seq ?_
  refine AW.region ?_
  refine OpsW.q rfl (q_move (v := .int _ _) rfl) ?_
  refine OpsW.q rfl (q_subI rfl rfl (by omega)) ?_
  refine OpsW.q rfl (q_gtr rfl rfl) ?_
  refine OpsW.nil ?_
  refine SeqP.go ?_
  refine AW.cond rfl (fun h5 => ?_) (fun h5 => ?_)
  ·
   try simp only [eb56, eb67, z1, z2, z3, z4, z5, z6, z7, z8, z9, z10, z11, z12, z13, z14] at h5
   obtain ⟨e1, e2⟩ := bo_big hn hshort hrz hgd (by omega)
   rw [e1, e2]
   refine AW.seq ?_
   refine AW.region ?_
   refine OpsW.q rfl (q_assign (v := .int _ _) rfl) ?_
   refine OpsW.q rfl (q_assign (v := S _) rfl) ?_
   refine OpsW.q rfl (q_assign (v := .int _ _) rfl) ?_
   refine OpsW.nil ?_
   refine SeqP.go ?_
   refine AW.ret ?_
   refine SeqP.ret ?_
   refine RetP.mk3 (H' := Hl0) (v1 := .int _ _) (v2 := S _) (v3 := .int _ _) rfl rfl rfl rfl  (Hp.le_refl _) ?_
   exact ⟨rfl, hSl0⟩
  try simp only [eb56, eb67, z1, z2, z3, z4, z5, z6, z7, z8, z9, z10, z11, z12, z13, z14] at h5
  obtain ⟨e1, e2⟩ := bo_ok hn hshort hrz hgd (by omega)
  rw [e1, e2, (hT2 hn1).1, (hT2 hn1).2]
  refine AW.skip ?_
  refine SeqP.go ?_
  refine AW.seq ?_
  refine AW.region ?_
  refine OpsW.q rfl (q_move (v := .pointer _) rfl) ?_
  refine OpsW.q rfl (q_move (v := .pointer _) rfl) ?_
  refine OpsW.q rfl (q_nilCheck rfl) ?_
  refine OpsW.q rfl (q_fieldAddr (sz := 0) Tryz.underlying40 rfl (by kernel_rfl) rfl) ?_
  refine OpsW.q rfl (q_load (v := .int _ _) (by kernel_rfl) rfl (hSl0.blk at0) rfl) ?_
  refine OpsW.q rfl (q_addI rfl rfl (by omega)) ?_
  refine OpsW.q rfl (q_nilCheck rfl) ?_
  refine OpsW.q rfl (q_fieldAddr (sz := 0) Tryz.underlying40 rfl (by kernel_rfl) rfl) ?_
  refine OpsW.ms (s_storeC (v := .int _ _) hSl0 at0 (by kernel_rfl) rfl rfl rfl (by simp; done)) ?_
  rintro _ H1 ⟨rfl, hS1⟩
  clear hSl0
  refine OpsW.nil ?_
  refine SeqP.go ?_
  refine AW.seq ?_
  refine AW.drawK [] 10 rfl (by kernel_rfl) ?_
  refine SeqK.q rfl (q_move (v := S _) rfl) ?_
  refine SeqK.q rfl (q_move (v := .int _ _) rfl) ?_
  refine SeqK.q rfl (q_subI rfl rfl (by omega)) ?_
  refine SeqK.q rfl (q_indexS Tryz.underlying9 rfl rfl (by omega) (by omega)) ?_
  refine SeqK.q rfl (q_convI64 rfl Tryz.underlying3 rfl (by exact rng_bt _ _)) ?_
  refine SeqK.q rfl (q_move (v := S _) rfl) ?_
  refine SeqK.q rfl (q_move (v := .int _ _) rfl) ?_
  refine SeqK.q rfl (q_subI rfl rfl (by omega)) ?_
  refine SeqK.q rfl (q_sliceS_hi Tryz.underlying9 rfl rfl (by omega) (by omega)) ?_
  refine SeqK.q rfl (q_assign (v := .int _ _) rfl) ?_
  refine SeqK.done ?_
  refine OpsW.q rfl (q_assign (v := S _) rfl) ?_
  refine OpsW.q rfl (q_assign (v := .int _ _) rfl) ?_
  refine OpsW.nil ?_
  refine SeqP.go ?_
  refine AW.ret ?_
  refine RetP.mk3 (H' := H1) (v1 := .int _ _) (v2 := S _) (v3 := .int _ _) rfl rfl rfl rfl  (Hp.le_refl _) ?_
  exact ⟨rfl, hS1⟩
 try simp only [eb56, z1, z2, z3, z4, z5, z6, z7, z8, z9, z10, z11, z12, z13, z14] at h3
 refine AW.skip ?_
 refine SeqP.go ?_
 refine AW.block ?_
 refine AW.region ?_
 refine OpsW.q rfl (q_move (v := .int _ _) rfl) ?_
 refine OpsW.q rfl (q_subI rfl rfl (by omega)) ?_
 refine OpsW.q rfl (q_assign (v := .int _ _) rfl) ?_
 refine OpsW.nil ?_
 refine BlockP.go ?_
 exact LoopP.go _ (by omega) ⟨n - 1, _, rfl, ⟨by omega, fun j g1 g2 => (Nat.lt_or_ge j n).elim (fun q => by rw [show j = ((n : Int) - 1).toNat from by omega]; exact h3.2) (fun q => hn3 j q g2)⟩, Slots.eq ⟨(by rfl), (by rfl), (by show Value.int .i64 _ = Value.int .i64 _; exact congrArg _ (by omega)),  trivial⟩, hSl0⟩
end
end Go.Proofs.YtfpoldogcopmpaaGreatDoor
end
section
namespace Go.Proofs.YtfpoldogcopmpaaGreatDoor
open Go Go.RowKit D
set_option linter.unusedVariables false
set_option linter.unusedSimpArgs false
set_option maxRecDepth 100000
theorem awF1 : feedP [] 0 [22, 3] = (0, [22, 3]) := feedP_ok (by decide)
theorem awN1 : nextP [22, 3] 0 = ((0, [], 33), ([22, 3], 0)) := nextP_busy (by rw [sizeP_short (badP_not3 (by decide +kernel)) (by decide)])
theorem awF2 : feedP [22, 3] 0 [4] = (0, [22, 3, 4]) := feedP_ok (by decide)
theorem awN2 : nextP [22, 3, 4] 0 = ((0, [], 11), ([22, 3, 4], 11)) := by
 have h := sizeP_bad (s := [22, 3, 4]) (badP_of3 (by decide) (by decide +kernel))
 rw [nextP_wrong (by rw [h]; decide) (by rw [h]; decide), h]
theorem awFr : frameP 22 [97, 98] = ([22, 3, 3, 0, 2, 97, 98], 0) := by
 rw [frameP_ok (by decide +kernel) (by decide)]
 rfl
def fr (ss : List (List UInt8)) (i : Nat) : List UInt8 := headP (20 + (i : Int) % 4) (ss.getD i []).length ++ ss.getD i []
end Go.Proofs.YtfpoldogcopmpaaGreatDoor
end
section
namespace Go.Proofs.YtfpoldogcopmpaaGreatDoor
open Go Go.RowKit D
set_option linter.unusedVariables false
set_option linter.unusedSimpArgs false
set_option maxRecDepth 100000
set_option maxHeartbeats 1000000
section
variable {w0 : World} {H : Hp}
theorem feed_at {bR : Nat} (s : List UInt8) (e : Int) (d : List UInt8) (hs : s.length ≤ 1048576) (hd : d.length ≤ 1000000) : Con Tryz.prog w0 16 #[.pointer (some ⟨bR, 0, none⟩), S d] (H.set bR ⟨[S s, .int .i64 e], 2, 66⟩)
  (fun v H' => v = .int .i64 (feedP s e d).1 ∧ H' = H.set bR ⟨[S (feedP s e d).2, .int .i64 e], 2, 66⟩) := (feed_con s e d Hp.set_self hs hd).mono (by rintro _ _ ⟨h1, h2⟩; exact ⟨h1, h2.trans Hp.set_set⟩)
theorem next_at {bR : Nat} (s : List UInt8) (e : Int) (hs : s.length ≤ 1048576) : Con Tryz.prog w0 17 #[.pointer (some ⟨bR, 0, none⟩)] (H.set bR ⟨[S s, .int .i64 e], 2, 66⟩)
  (fun v H' => v = .tuple #[.int .i64 (nextP s e).1.1, S (nextP s e).1.2.1, .int .i64 (nextP s e).1.2.2] ∧ H' = H.set bR ⟨[S (nextP s e).2.1, .int .i64 (nextP s e).2.2], 2, 66⟩) := (next_con s e Hp.set_self hs).mono (by rintro _ _ ⟨h1, h2⟩; exact ⟨h1, h2.trans Hp.set_set⟩)
theorem awake_con : Con Tryz.prog w0 5 #[] H (fun v H' => v = .bool true ∧ H' = H) := by
 refine Con.intro Tryz.func5 rfl rfl ?_
 refine AW.seq ?_
 refine AW.region ?_
 refine OpsW.q rfl (q_assign (v := .bool _) rfl) ?_
 refine OpsW.nil ?_
 refine SeqP.go ?_
 refine AW.seq ?_
 refine AW.region ?_
 refine OpsW.x rfl (o_call rfl Tryz.func14 rfl rfl (frame_con 22 [97, 98] (by decide))) ?_
 rw [awFr]
 refine OpsW.q rfl (q_move (v := .tuple _) rfl) ?_
 refine OpsW.q rfl (q_extract (v := S _) rfl rfl) ?_
 refine OpsW.q rfl (q_extract (v := .int _ _) rfl rfl) ?_
 refine OpsW.q rfl (q_assign (v := S _) rfl) ?_
 refine OpsW.q rfl (q_assign (v := .int _ _) rfl) ?_
 refine OpsW.nil ?_
 refine SeqP.go ?_
 refine AW.seq ?_
 refine AW.region ?_
 refine OpsW.m rfl (o_call rfl Tryz.func15 rfl rfl (NewReader_con)) ?_
 rintro _ _ ⟨b14, hb14, rfl, rfl⟩
 refine OpsW.q rfl (q_assign (v := .pointer _) rfl) ?_
 refine OpsW.nil ?_
 refine SeqP.go ?_
 refine AW.seq ?_
 refine AW.seq ?_
 refine AW.region ?_
 refine OpsW.q rfl (q_move (v := .pointer _) rfl) ?_
 refine OpsW.q rfl (q_eqlP Tryz.underlying49 rfl rfl) ?_
 refine OpsW.nil ?_
 refine SeqP.go ?_
 refine AW.cond rfl (fun h0 => ?_) (fun h0 => ?_)
 ·
  exfalso
  try simp only [z1, z2, z3, z4, z5, z6, z7, z8, z9, z10, z11, z12, z13, z14] at h0
  cases h0
 try simp only [z1, z2, z3, z4, z5, z6, z7, z8, z9, z10, z11, z12, z13, z14] at h0
 refine AW.skip ?_
 refine SeqP.go ?_
 refine AW.seq ?_
 refine AW.region ?_
 refine OpsW.q rfl (q_move (v := .pointer _) rfl) ?_
 refine OpsW.x rfl (o_call rfl Tryz.func16 rfl rfl (feed_at [] 0 [22, 3] (by decide) (by decide))) ?_
 rw [awF1]
 refine OpsW.nil ?_
 refine SeqP.go ?_
 refine AW.seq ?_
 refine AW.region ?_
 refine OpsW.q rfl (q_move (v := .pointer _) rfl) ?_
 refine OpsW.x rfl (o_call rfl Tryz.func17 rfl rfl (next_at [22, 3] 0 (by decide))) ?_
 rw [awN1]
 refine OpsW.q rfl (q_move (v := .tuple _) rfl) ?_
 refine OpsW.q rfl (q_extract (v := .int _ _) rfl rfl) ?_
 refine OpsW.q rfl (q_extract (v := S _) rfl rfl) ?_
 refine OpsW.q rfl (q_extract (v := .int _ _) rfl rfl) ?_
 refine OpsW.q rfl (q_assign (v := .int _ _) rfl) ?_
 refine OpsW.q rfl (q_assign (v := S _) rfl) ?_
 refine OpsW.q rfl (q_assign (v := .int _ _) rfl) ?_
 refine OpsW.nil ?_
 refine SeqP.go ?_
 refine AW.seq ?_
 refine AW.region ?_
 refine OpsW.q rfl (q_move (v := .pointer _) rfl) ?_
 refine OpsW.x rfl (o_call rfl Tryz.func16 rfl rfl (feed_at [22, 3] 0 [4] (by decide) (by decide))) ?_
 rw [awF2]
 refine OpsW.nil ?_
 refine SeqP.go ?_
 refine AW.seq ?_
 refine AW.region ?_
 refine OpsW.q rfl (q_move (v := .pointer _) rfl) ?_
 refine OpsW.x rfl (o_call rfl Tryz.func17 rfl rfl (next_at [22, 3, 4] 0 (by decide))) ?_
 rw [awN2]
 refine OpsW.q rfl (q_move (v := .tuple _) rfl) ?_
 refine OpsW.q rfl (q_extract (v := .int _ _) rfl rfl) ?_
 refine OpsW.q rfl (q_extract (v := S _) rfl rfl) ?_
 refine OpsW.q rfl (q_extract (v := .int _ _) rfl rfl) ?_
 refine OpsW.q rfl (q_assign (v := .int _ _) rfl) ?_
 refine OpsW.q rfl (q_assign (v := S _) rfl) ?_
 refine OpsW.q rfl (q_assign (v := .int _ _) rfl) ?_
 refine OpsW.nil ?_
 refine SeqP.go ?_
 refine AW.seq ?_
 refine AW.region ?_
 refine OpsW.q rfl (q_move (v := .int _ _) rfl) ?_
 refine OpsW.q rfl (q_eql rfl rfl) ?_
 refine OpsW.qb rfl (q_move (v := .bool _) rfl) ?_
 intro b35 eb35
 refine OpsW.g rfl rfl rfl (fun hB => by simp only [Bool.and_eq_true, beq_iff_eq] at hB; obtain rfl := hB; exact (q_move (v := S _) rfl)) ?_
 refine OpsW.g rfl rfl rfl (fun hB => by simp only [Bool.and_eq_true, beq_iff_eq] at hB; obtain rfl := hB; exact (q_eqS rfl rfl)) ?_
 refine OpsW.q rfl (q_and2 rfl rfl rfl) ?_
 refine OpsW.qb rfl (q_move (v := .bool _) rfl) ?_
 intro b39 eb39
 refine OpsW.g rfl rfl rfl (fun hB => by simp only [Bool.and_eq_true, beq_iff_eq] at hB; obtain rfl := hB; exact (q_move (v := .int _ _) rfl)) ?_
 refine OpsW.g rfl rfl rfl (fun hB => by simp only [Bool.and_eq_true, beq_iff_eq] at hB; obtain rfl := hB; exact (q_eql rfl rfl)) ?_
 refine OpsW.q rfl (q_and2 rfl rfl rfl) ?_
 refine OpsW.qb rfl (q_move (v := .bool _) rfl) ?_
 intro b43 eb43
 refine OpsW.g rfl rfl rfl (fun hB => by simp only [Bool.and_eq_true, beq_iff_eq] at hB; obtain rfl := hB; exact (q_move (v := .int _ _) rfl)) ?_
 refine OpsW.g rfl rfl rfl (fun hB => by simp only [Bool.and_eq_true, beq_iff_eq] at hB; obtain rfl := hB; exact (q_eql rfl rfl)) ?_
 refine OpsW.q rfl (q_and2 rfl rfl rfl) ?_
 refine OpsW.q rfl (q_assign (v := .bool _) rfl) ?_
 refine OpsW.nil ?_
 refine SeqP.go ?_
 refine AW.ret ?_
 refine RetP.mk1 (H' := H) (v1 := .bool _) rfl rfl  (by exact (Hp.le_set (by first | assumption | exact Hp.set_none (by assumption) (by first | assumption | exact Ne.symm (by assumption)) | exact Hp.set_none (Hp.set_none (by assumption) (by first | assumption | exact Ne.symm (by assumption))) (by first | assumption | exact Ne.symm (by assumption))) (Hp.le_refl _))) ?_
 refine ⟨?_, rfl⟩
 simp_all
end
end Go.Proofs.YtfpoldogcopmpaaGreatDoor
end
section
namespace Go.Proofs.YtfpoldogcopmpaaGreatDoor
open Go Go.RowKit D
set_option linter.unusedVariables false
set_option linter.unusedSimpArgs false
set_option maxRecDepth 100000
set_option maxHeartbeats 2000000
section
variable {w0 : World} {H : Hp} {H0 : Hp}
theorem raw_con (suite : Int) (key iv inner : List UInt8) : Con Tryz.prog w0 3 #[.agg #[.int .i64 suite, S key, S iv], S inner] H (fun v H' => v = .bool true ∧ H' = H) := by
 have hS0 : Sep H [] H := Sep.refl
 refine Con.intro Tryz.func3 rfl rfl ?_
 refine AW.seq ?_
 refine AW.region ?_
 refine OpsW.m rfl (s_box (v := .agg _) hS0 rfl rfl) ?_
 rintro _ H1 ⟨b2, rfl, hS1⟩
 clear hS0
 refine OpsW.q rfl (q_assign (v := .bool _) rfl) ?_
 refine OpsW.nil ?_
 refine SeqP.go ?_
 refine AW.seq ?_
 refine AW.seq ?_
 refine AW.region ?_
 refine OpsW.q rfl (q_move (v := S _) rfl) ?_
 refine OpsW.q rfl (q_lenS Tryz.underlying9 rfl) ?_
 refine OpsW.q rfl (q_gtr rfl rfl) ?_
 refine OpsW.nil ?_
 refine SeqP.go ?_
 refine AW.cond rfl (fun h0 => ?_) (fun h0 => ?_)
 ·
  try simp only [z1, z2, z3, z4, z5, z6, z7, z8, z9, z10, z11, z12, z13, z14] at h0
  refine AW.seq ?_
  refine AW.region ?_
  refine OpsW.q rfl (o_call rfl Tryz.func5 rfl rfl (awake_con)) ?_
  refine OpsW.q rfl (q_assign (v := .bool _) rfl) ?_
  refine OpsW.nil ?_
  refine SeqP.go ?_
  refine AW.ret ?_
  refine SeqP.ret ?_
  refine RetP.mk1 (H' := H) (v1 := .bool _) rfl rfl  hS1.le ?_
  refine ⟨?_, rfl⟩
  simp_all
 try simp only [z1, z2, z3, z4, z5, z6, z7, z8, z9, z10, z11, z12, z13, z14] at h0
 refine AW.skip ?_
 refine SeqP.go ?_
 refine AW.seq ?_
 by_cases hz : boxE suite key iv = 0
 ·
  have hok := box_ok hz
  refine AW.region ?_
  refine OpsW.q rfl (q_fieldAddr (sz := 0) Tryz.underlying23 rfl (by kernel_rfl) rfl) ?_
  refine OpsW.q rfl (q_load (v := .int _ _) (by kernel_rfl) rfl (hS1.blk at0) rfl) ?_
  refine OpsW.q rfl (q_fieldAddr (sz := 0) Tryz.underlying23 rfl (by kernel_rfl) rfl) ?_
  refine OpsW.q rfl (q_load (v := S _) (by kernel_rfl) rfl (hS1.blk at0) rfl) ?_
  refine OpsW.q rfl (q_fieldAddr (sz := 0) Tryz.underlying23 rfl (by kernel_rfl) rfl) ?_
  refine OpsW.q rfl (q_load (v := S _) (by kernel_rfl) rfl (hS1.blk at0) rfl) ?_
  refine OpsW.m rfl (o_call rfl Tryz.func6 rfl rfl (NewBox_ok hz)) ?_
  rintro _ H2 ⟨b29, rfl, hR2⟩
  have hS2 := hS1.join hR2
  simp only [List.cons_append, List.nil_append] at hS2
  clear hR2 hS1
  refine OpsW.q rfl (q_move (v := .tuple _) rfl) ?_
  refine OpsW.q rfl (q_extract (v := .pointer _) rfl rfl) ?_
  refine OpsW.q rfl (q_extract (v := .int _ _) rfl rfl) ?_
  refine OpsW.q rfl (q_assign (v := .pointer _) rfl) ?_
  refine OpsW.q rfl (q_assign (v := .int _ _) rfl) ?_
  refine OpsW.nil ?_
  refine SeqP.go ?_
  refine AW.seq ?_
  refine AW.region ?_
  refine OpsW.q rfl (q_fieldAddr (sz := 0) Tryz.underlying23 rfl (by kernel_rfl) rfl) ?_
  refine OpsW.q rfl (q_load (v := .int _ _) (by kernel_rfl) rfl (hS2.blk at1) rfl) ?_
  refine OpsW.q rfl (q_fieldAddr (sz := 0) Tryz.underlying23 rfl (by kernel_rfl) rfl) ?_
  refine OpsW.q rfl (q_load (v := S _) (by kernel_rfl) rfl (hS2.blk at1) rfl) ?_
  refine OpsW.q rfl (q_fieldAddr (sz := 0) Tryz.underlying23 rfl (by kernel_rfl) rfl) ?_
  refine OpsW.q rfl (q_load (v := S _) (by kernel_rfl) rfl (hS2.blk at1) rfl) ?_
  refine OpsW.m rfl (o_call rfl Tryz.func7 rfl rfl (NewBoxR_ok hz)) ?_
  rintro _ H3 ⟨b39, rfl, hR3⟩
  have hS3 := hS2.join hR3
  simp only [List.cons_append, List.nil_append] at hS3
  clear hR3 hS2
  refine OpsW.q rfl (q_move (v := .tuple _) rfl) ?_
  refine OpsW.q rfl (q_extract (v := .pointer _) rfl rfl) ?_
  refine OpsW.q rfl (q_extract (v := .int _ _) rfl rfl) ?_
  refine OpsW.q rfl (q_assign (v := .pointer _) rfl) ?_
  refine OpsW.q rfl (q_assign (v := .int _ _) rfl) ?_
  refine OpsW.nil ?_
  refine SeqP.go ?_
  refine AW.seq ?_
  refine AW.seq ?_
  refine AW.region ?_
  refine OpsW.q rfl (q_move (v := .int _ _) rfl) ?_
  refine OpsW.q rfl (q_neq rfl rfl) ?_
  refine OpsW.qb rfl (q_move (v := .bool _) rfl) ?_
  intro b44 eb44
  refine OpsW.g rfl rfl rfl (fun hB => by simp only [Bool.and_eq_true, beq_iff_eq] at hB; obtain rfl := hB; exact (q_move (v := .int _ _) rfl)) ?_
  refine OpsW.g rfl rfl rfl (fun hB => by simp only [Bool.and_eq_true, beq_iff_eq] at hB; obtain rfl := hB; exact (q_neq rfl rfl)) ?_
  refine OpsW.q rfl (q_or2 rfl rfl rfl) ?_
  refine OpsW.nil ?_
  refine SeqP.go ?_
  refine AW.cond rfl (fun h1 => ?_) (fun h1 => ?_)
  ·
   exfalso
   try simp only [eb44, z1, z2, z3, z4, z5, z6, z7, z8, z9, z10, z11, z12, z13, z14] at h1
   simp_all
  try simp only [eb44, z1, z2, z3, z4, z5, z6, z7, z8, z9, z10, z11, z12, z13, z14] at h1
  refine AW.skip ?_
  refine SeqP.go ?_
  refine AW.seq ?_
  refine AW.region ?_
  refine OpsW.q rfl (q_move (v := S _) rfl) ?_
  refine OpsW.q rfl (q_lenS Tryz.underlying9 rfl) ?_
  refine OpsW.q rfl (q_addI rfl rfl (by omega)) ?_
  refine OpsW.q rfl (q_assign (v := .int _ _) rfl) ?_
  refine OpsW.nil ?_
  refine SeqP.go ?_
  refine AW.seq ?_
  refine AW.region ?_
  refine OpsW.q rfl (q_fieldAddr (sz := 0) Tryz.underlying23 rfl (by kernel_rfl) rfl) ?_
  refine OpsW.q rfl (q_load (v := .int _ _) (by kernel_rfl) rfl (hS3.blk at2) rfl) ?_
  refine OpsW.q rfl (q_fieldAddr (sz := 0) Tryz.underlying23 rfl (by kernel_rfl) rfl) ?_
  refine OpsW.q rfl (q_load (v := S _) (by kernel_rfl) rfl (hS3.blk at2) rfl) ?_
  refine OpsW.q rfl (q_fieldAddr (sz := 0) Tryz.underlying23 rfl (by kernel_rfl) rfl) ?_
  refine OpsW.q rfl (q_load (v := S _) (by kernel_rfl) rfl (hS3.blk at2) rfl) ?_
  refine OpsW.q rfl (q_move (v := .int _ _) rfl) ?_
  refine OpsW.q rfl (q_shrL 8 rfl rfl (by decide) rfl) ?_
  refine OpsW.q rfl (q_convInt rfl Tryz.underlying5 rfl) ?_
  refine OpsW.q rfl (q_move (v := .int _ _) rfl) ?_
  refine OpsW.q rfl (q_convInt rfl Tryz.underlying5 rfl) ?_
  refine OpsW.m rfl (s_buildSlice (z := .int .u8 0) (vs := nums .u8 [_, _, _, _, _]) hS3 Tryz.underlying35 (by kernel_rfl) (by kernel_rfl) rfl (by rfl) (by rfl) (by decide) rfl (nums_one _ _) rfl) ?_
  rintro v69 H4 hS4
  clear hS3
  refine OpsW.q rfl (q_stringVec (hS4.vec at0) Tryz.underlying35 Tryz.underlying5 Tryz.underlying9 rfl) ?_
  refine OpsW.q rfl (q_move (v := S _) rfl) ?_
  refine OpsW.q rfl (o_call rfl Tryz.func8 rfl rfl (sSealR_con (by rw [toB_length]; simp) (by omega))) ?_
  refine OpsW.q rfl (q_move (v := .tuple _) rfl) ?_
  refine OpsW.q rfl (q_extract (v := S _) rfl rfl) ?_
  refine OpsW.q rfl (q_extract (v := .int _ _) rfl rfl) ?_
  refine OpsW.q rfl (q_assign (v := S _) rfl) ?_
  refine OpsW.q rfl (q_assign (v := .int _ _) rfl) ?_
  refine OpsW.nil ?_
  refine SeqP.go ?_
  refine AW.seq ?_
  refine AW.seq ?_
  refine AW.region ?_
  refine OpsW.q rfl (q_move (v := .int _ _) rfl) ?_
  refine OpsW.q rfl (q_neq rfl rfl) ?_
  refine OpsW.nil ?_
  refine SeqP.go ?_
  refine AW.cond rfl (fun h2 => ?_) (fun h2 => ?_)
  ·
   try simp only [eb44, z1, z2, z3, z4, z5, z6, z7, z8, z9, z10, z11, z12, z13, z14] at h2
   refine AW.seq ?_
   refine AW.region ?_
   refine OpsW.q rfl (o_call rfl Tryz.func5 rfl rfl (awake_con)) ?_
   refine OpsW.q rfl (q_assign (v := .bool _) rfl) ?_
   refine OpsW.nil ?_
   refine SeqP.go ?_
   refine AW.ret ?_
   refine SeqP.ret ?_
   refine RetP.mk1 (H' := H) (v1 := .bool _) rfl rfl  hS4.le ?_
   refine ⟨?_, rfl⟩
   simp_all
  try simp only [eb44, z1, z2, z3, z4, z5, z6, z7, z8, z9, z10, z11, z12, z13, z14] at h2
  refine AW.skip ?_
  refine SeqP.go ?_
  refine AW.seq ?_
  refine AW.region ?_
  refine OpsW.q rfl (q_move (v := .pointer _) rfl) ?_
  refine OpsW.q rfl (q_move (v := S _) rfl) ?_
  obtain ⟨Hf5, le5, hA5, hB5⟩ := hS4.framed at2
  refine OpsW.m rfl (o_call rfl Tryz.func9 rfl rfl (bOpen_s hA5 hok)) ?_
  rintro _ H5 ⟨rfl, hR5⟩
  have hS5 := hB5 _ _ hR5
  clear hR5 hB5 hA5
  clear hS4
  refine OpsW.q rfl (q_move (v := .tuple _) rfl) ?_
  refine OpsW.q rfl (q_extract (v := .int _ _) rfl rfl) ?_
  refine OpsW.q rfl (q_extract (v := S _) rfl rfl) ?_
  refine OpsW.q rfl (q_extract (v := .int _ _) rfl rfl) ?_
  refine OpsW.q rfl (q_assign (v := .int _ _) rfl) ?_
  refine OpsW.q rfl (q_assign (v := S _) rfl) ?_
  refine OpsW.q rfl (q_assign (v := .int _ _) rfl) ?_
  refine OpsW.nil ?_
  refine SeqP.go ?_
  refine AW.seq ?_
  refine AW.region ?_
  refine OpsW.q rfl (q_move (v := .pointer _) rfl) ?_
  refine OpsW.q rfl (q_move (v := S _) rfl) ?_
  obtain ⟨Hf6, le6, hA6, hB6⟩ := hS5.framed at1
  refine OpsW.m rfl (o_call rfl Tryz.func10 rfl rfl (bOpenR_s hA6 hok)) ?_
  rintro _ H6 ⟨rfl, hR6⟩
  have hS6 := hB6 _ _ hR6
  clear hR6 hB6 hA6
  clear hS5
  refine OpsW.q rfl (q_move (v := .tuple _) rfl) ?_
  refine OpsW.q rfl (q_extract (v := .int _ _) rfl rfl) ?_
  refine OpsW.q rfl (q_extract (v := S _) rfl rfl) ?_
  refine OpsW.q rfl (q_extract (v := .int _ _) rfl rfl) ?_
  refine OpsW.q rfl (q_assign (v := .int _ _) rfl) ?_
  refine OpsW.q rfl (q_assign (v := S _) rfl) ?_
  refine OpsW.q rfl (q_assign (v := .int _ _) rfl) ?_
  refine OpsW.nil ?_
  refine SeqP.go ?_
  refine AW.seq ?_
  refine AW.drawK [] 20 rfl (by kernel_rfl) ?_
  refine SeqK.q rfl (q_move (v := .int _ _) rfl) ?_
  refine SeqK.q rfl (q_move (v := .int _ _) rfl) ?_
  refine SeqK.q rfl (q_eql rfl rfl) ?_
  refine SeqK.qb rfl (q_move (v := .bool _) rfl) ?_
  intro b95 eb95
  refine SeqK.g rfl rfl rfl (fun hB => by simp only [Bool.and_eq_true, beq_iff_eq] at hB; obtain rfl := hB; exact (q_move (v := S _) rfl)) ?_
  refine SeqK.g rfl rfl rfl (fun hB => by simp only [Bool.and_eq_true, beq_iff_eq] at hB; obtain rfl := hB; exact (q_move (v := S _) rfl)) ?_
  refine SeqK.g rfl rfl rfl (fun hB => by simp only [Bool.and_eq_true, beq_iff_eq] at hB; obtain rfl := hB; exact (q_eqS rfl rfl)) ?_
  refine SeqK.q rfl (q_and2 rfl rfl rfl) ?_
  refine SeqK.qb rfl (q_move (v := .bool _) rfl) ?_
  intro b100 eb100
  refine SeqK.g rfl rfl rfl (fun hB => by simp only [Bool.and_eq_true, beq_iff_eq] at hB; obtain rfl := hB; exact (q_move (v := .int _ _) rfl)) ?_
  refine SeqK.g rfl rfl rfl (fun hB => by simp only [Bool.and_eq_true, beq_iff_eq] at hB; obtain rfl := hB; exact (q_move (v := .int _ _) rfl)) ?_
  refine SeqK.g rfl rfl rfl (fun hB => by simp only [Bool.and_eq_true, beq_iff_eq] at hB; obtain rfl := hB; exact (q_eql rfl rfl)) ?_
  refine SeqK.q rfl (q_and2 rfl rfl rfl) ?_
  refine SeqK.qb rfl (q_move (v := .bool _) rfl) ?_
  intro b105 eb105
  refine SeqK.g rfl rfl rfl (fun hB => by simp only [Bool.and_eq_true, beq_iff_eq] at hB; obtain rfl := hB; exact (q_move (v := .pointer _) rfl)) ?_
  refine SeqK.g rfl rfl rfl (fun hB => by simp only [Bool.and_eq_true, beq_iff_eq] at hB; obtain rfl := hB; exact (o_call rfl Tryz.func11 rfl rfl (Count_con (hS6.blk at2)))) ?_
  refine SeqK.g rfl rfl rfl (fun hB => by simp only [Bool.and_eq_true, beq_iff_eq] at hB; obtain rfl := hB; exact (q_move (v := .pointer _) rfl)) ?_
  refine SeqK.g rfl rfl rfl (fun hB => by simp only [Bool.and_eq_true, beq_iff_eq] at hB; obtain rfl := hB; exact (q_nilCheck rfl)) ?_
  refine SeqK.g rfl rfl rfl (fun hB => by simp only [Bool.and_eq_true, beq_iff_eq] at hB; obtain rfl := hB; exact (q_fieldAddr (sz := 0) Tryz.underlying40 rfl (by kernel_rfl) rfl)) ?_
  refine SeqK.g rfl rfl rfl (fun hB => by simp only [Bool.and_eq_true, beq_iff_eq] at hB; obtain rfl := hB; exact (q_load (v := _) (by kernel_rfl) rfl (hS6.blk at1) rfl)) ?_
  refine SeqK.done ?_
  refine OpsW.g rfl rfl rfl (fun hB => by simp only [Bool.and_eq_true, beq_iff_eq] at hB; obtain rfl := hB; exact (q_eql rfl rfl)) ?_
  refine OpsW.q rfl (q_and2 rfl rfl rfl) ?_
  refine OpsW.qb rfl (q_move (v := .bool _) rfl) ?_
  intro b114 eb114
  refine OpsW.g rfl rfl rfl (fun hB => by simp only [Bool.and_eq_true, beq_iff_eq] at hB; obtain rfl := hB; exact (o_call rfl Tryz.func5 rfl rfl (awake_con))) ?_
  refine OpsW.q rfl (q_and2 rfl rfl rfl) ?_
  refine OpsW.q rfl (q_assign (v := .bool _) rfl) ?_
  refine OpsW.nil ?_
  refine SeqP.go ?_
  refine AW.ret ?_
  refine RetP.mk1 (H' := H) (v1 := .bool _) rfl rfl  hS6.le ?_
  refine ⟨?_, rfl⟩
  simp_all
 ·
  refine AW.region ?_
  refine OpsW.q rfl (q_fieldAddr (sz := 0) Tryz.underlying23 rfl (by kernel_rfl) rfl) ?_
  refine OpsW.q rfl (q_load (v := .int _ _) (by kernel_rfl) rfl (hS1.blk at0) rfl) ?_
  refine OpsW.q rfl (q_fieldAddr (sz := 0) Tryz.underlying23 rfl (by kernel_rfl) rfl) ?_
  refine OpsW.q rfl (q_load (v := S _) (by kernel_rfl) rfl (hS1.blk at0) rfl) ?_
  refine OpsW.q rfl (q_fieldAddr (sz := 0) Tryz.underlying23 rfl (by kernel_rfl) rfl) ?_
  refine OpsW.q rfl (q_load (v := S _) (by kernel_rfl) rfl (hS1.blk at0) rfl) ?_
  refine OpsW.q rfl (o_call rfl Tryz.func6 rfl rfl (NewBox_bad hz)) ?_
  refine OpsW.q rfl (q_move (v := .tuple _) rfl) ?_
  refine OpsW.q rfl (q_extract (v := .pointer _) rfl rfl) ?_
  refine OpsW.q rfl (q_extract (v := .int _ _) rfl rfl) ?_
  refine OpsW.q rfl (q_assign (v := .pointer _) rfl) ?_
  refine OpsW.q rfl (q_assign (v := .int _ _) rfl) ?_
  refine OpsW.nil ?_
  refine SeqP.go ?_
  refine AW.seq ?_
  refine AW.region ?_
  refine OpsW.q rfl (q_fieldAddr (sz := 0) Tryz.underlying23 rfl (by kernel_rfl) rfl) ?_
  refine OpsW.q rfl (q_load (v := .int _ _) (by kernel_rfl) rfl (hS1.blk at0) rfl) ?_
  refine OpsW.q rfl (q_fieldAddr (sz := 0) Tryz.underlying23 rfl (by kernel_rfl) rfl) ?_
  refine OpsW.q rfl (q_load (v := S _) (by kernel_rfl) rfl (hS1.blk at0) rfl) ?_
  refine OpsW.q rfl (q_fieldAddr (sz := 0) Tryz.underlying23 rfl (by kernel_rfl) rfl) ?_
  refine OpsW.q rfl (q_load (v := S _) (by kernel_rfl) rfl (hS1.blk at0) rfl) ?_
  refine OpsW.q rfl (o_call rfl Tryz.func7 rfl rfl (NewBoxR_bad hz)) ?_
  refine OpsW.q rfl (q_move (v := .tuple _) rfl) ?_
  refine OpsW.q rfl (q_extract (v := .pointer _) rfl rfl) ?_
  refine OpsW.q rfl (q_extract (v := .int _ _) rfl rfl) ?_
  refine OpsW.q rfl (q_assign (v := .pointer _) rfl) ?_
  refine OpsW.q rfl (q_assign (v := .int _ _) rfl) ?_
  refine OpsW.nil ?_
  refine SeqP.go ?_
  refine AW.seq ?_
  refine AW.seq ?_
  refine AW.region ?_
  refine OpsW.q rfl (q_move (v := .int _ _) rfl) ?_
  refine OpsW.q rfl (q_neq rfl rfl) ?_
  refine OpsW.qb rfl (q_move (v := .bool _) rfl) ?_
  intro b44 eb44
  refine OpsW.g rfl rfl rfl (fun hB => by simp only [Bool.and_eq_true, beq_iff_eq] at hB; obtain rfl := hB; exact (q_move (v := .int _ _) rfl)) ?_
  refine OpsW.g rfl rfl rfl (fun hB => by simp only [Bool.and_eq_true, beq_iff_eq] at hB; obtain rfl := hB; exact (q_neq rfl rfl)) ?_
  refine OpsW.q rfl (q_or2 rfl rfl rfl) ?_
  refine OpsW.nil ?_
  refine SeqP.go ?_
  refine AW.cond rfl (fun h1 => ?_) (fun h1 => ?_)
  ·
   try simp only [eb44, z1, z2, z3, z4, z5, z6, z7, z8, z9, z10, z11, z12, z13, z14] at h1
   refine AW.seq ?_
   refine AW.region ?_
   refine OpsW.q rfl (q_move (v := .int _ _) rfl) ?_
   refine OpsW.q rfl (q_move (v := .int _ _) rfl) ?_
   refine OpsW.q rfl (q_eql rfl rfl) ?_
   refine OpsW.qb rfl (q_move (v := .bool _) rfl) ?_
   intro b51 eb51
   refine OpsW.g rfl rfl rfl (fun hB => by simp only [Bool.and_eq_true, beq_iff_eq] at hB; obtain rfl := hB; exact (o_call rfl Tryz.func5 rfl rfl (awake_con))) ?_
   refine OpsW.q rfl (q_and2 rfl rfl rfl) ?_
   refine OpsW.q rfl (q_assign (v := .bool _) rfl) ?_
   refine OpsW.nil ?_
   refine SeqP.go ?_
   refine AW.ret ?_
   refine SeqP.ret ?_
   refine RetP.mk1 (H' := H) (v1 := .bool _) rfl rfl  hS1.le ?_
   refine ⟨?_, rfl⟩
   simp_all
  exfalso
  try simp only [eb44, z1, z2, z3, z4, z5, z6, z7, z8, z9, z10, z11, z12, z13, z14] at h1
  simp_all
end
end Go.Proofs.YtfpoldogcopmpaaGreatDoor
end
section
namespace Go.Proofs.YtfpoldogcopmpaaGreatDoor
open Go Go.RowKit D
set_option linter.unusedVariables false
set_option linter.unusedSimpArgs false
abbrev StrL := List (List UInt8)
structure OpR where
 opn : Bool
 again : Bool
 kind : Int
 dat : List UInt8
 pad : Int
 n : Int
def oprCells (o : OpR) : List Value := [.bool o.opn, .bool o.again, .int .i64 o.kind, S o.dat, .int .i64 o.pad, .int .i64 o.n]
variable {x : BoxS} {kind : Int} {plain body : List UInt8} {pad : Int}
theorem bxSeal_zero (h : (bxSeal x kind plain pad).2 = 0) : x.n < 65536 ∧ 5 ≤ (bxSeal x kind plain pad).1.length := by
 by_cases h1 : isK kind = false ∨ pad < 0
 ·rw [(bx_arg (x := x) (plain := plain) h1).1] at h; cases h
 ·have hg : isK kind = true ∧ 0 ≤ pad := by
   refine ⟨?_, ?_⟩
   ·cases hk : isK kind
    ·exact absurd (.inl hk) h1
    ·rfl
   ·exact Int.not_lt.1 fun g => h1 (.inr g)
  by_cases h2 : 16384 < (plain.length : Int) ∨ 16600 - (plain.length : Int) < pad
  ·rw [(bx_big (x := x) hg h2).1] at h; cases h
  ·by_cases h3 : (bxNonce x).2 = 0
   ·by_cases h4 : (bxSealed x kind plain pad).2 = 0
    ·refine ⟨?_, ?_⟩
     ·rcases Int.lt_or_le x.n 65536 with g | g
      ·exact g
      ·rw [bxNonce_seq g] at h3; cases h3
     ·rw [(bx_ok (x := x) hg h2 h3 h4).1, List.length_append, bxHead_length]; exact Nat.le_add_right _ _
    ·rw [(bx_seal (x := x) hg h2 h3 h4).1] at h; exact absurd h h4
   ·rw [(bx_nonce (x := x) hg h2 h3).1] at h; exact absurd h h3
theorem bxAfter_ok (h : BoxOk x) : BoxOk (bxAfter x kind plain pad) := by
 unfold bxAfter
 split
 ·rename_i g; exact h.next (bxSeal_zero g).1
 ·exact h
theorem bxNext_ok (h : BoxOk x) : BoxOk (bxNext x body) := by
 unfold bxNext
 split
 ·rename_i g
  refine h.next ?_
  by_cases hn : x.n < 65536
  ·exact hn
  ·rw [(bo_seq (body := body) hn).1] at g; cases g
 ·exact h
theorem tmod_in (a : Int) {l : Nat} (h : 0 < l) : -(l : Int) < a.tmod l ∧ a.tmod l < l := by
 rcases Int.le_total 0 a with g | g
 ·rw [Int.tmod_eq_emod_of_nonneg g]
  have h1 := Int.emod_nonneg a (b := (l : Int)) (by omega)
  have h2 := Int.emod_lt_of_pos a (b := (l : Int)) (by omega)
  omega
 ·have e : a.tmod l = -((-a).tmod l) := by rw [Int.neg_tmod, Int.neg_neg]
  rw [e, Int.tmod_eq_emod_of_nonneg (by omega)]
  have h1 := Int.emod_nonneg (-a) (b := (l : Int)) (by omega)
  have h2 := Int.emod_lt_of_pos (-a) (b := (l : Int)) (by omega)
  omega
theorem emod_in (a : Int) {l : Nat} (h : 0 < l) : ∃ q : Nat, a % (l : Int) = (q : Int) ∧ q < l := by
 have h1 := Int.emod_nonneg a (b := (l : Int)) (by omega)
 have h2 := Int.emod_lt_of_pos a (b := (l : Int)) (by omega)
 exact ⟨(a % (l : Int)).toNat, by omega, by omega⟩
end Go.Proofs.YtfpoldogcopmpaaGreatDoor
end
section
namespace Go.Proofs.YtfpoldogcopmpaaGreatDoor
open Go Go.RowKit D
set_option linter.unusedVariables false
set_option linter.unusedSimpArgs false
set_option maxRecDepth 100000
set_option maxHeartbeats 2000000
section
variable {w0 : World} {H : Hp} {H0 : Hp}
theorem seals_con {rops : Option Addr} {m c : Nat} (suite : Int) (key iv : List UInt8) (o : Nat → OpR) (hrops : RowsAt w0 rops m 6 fun j => oprCells (o j)) (hm : m ≤ maxLen) (hO : ∀ j, j < m → (-9223372036854775808 ≤ (o j).pad ∧ (o j).pad ≤ 9223372036854775807)) : Con Tryz.prog w0 4 #[.agg #[.int .i64 suite, S key, S iv], .slice rops m c] H (fun v H' => v = .bool true ∧ H' = H) := by
 have hS0 : Sep H [] H := Sep.refl
 unfold maxLen at hm
 refine Con.intro Tryz.func4 rfl rfl ?_
 refine AW.seq ?_
 refine AW.region ?_
 refine OpsW.m rfl (s_box (v := .agg _) hS0 rfl rfl) ?_
 rintro _ H1 ⟨b2, rfl, hS1⟩
 clear hS0
 refine OpsW.q rfl (q_assign (v := .bool _) rfl) ?_
 refine OpsW.nil ?_
 refine SeqP.go ?_
 refine AW.seq ?_
 by_cases hz : boxE suite key iv = 0
 ·
  have hok := box_ok hz
  refine AW.region ?_
  refine OpsW.q rfl (q_fieldAddr (sz := 0) Tryz.underlying23 rfl (by kernel_rfl) rfl) ?_
  refine OpsW.q rfl (q_load (v := .int _ _) (by kernel_rfl) rfl (hS1.blk at0) rfl) ?_
  refine OpsW.q rfl (q_fieldAddr (sz := 0) Tryz.underlying23 rfl (by kernel_rfl) rfl) ?_
  refine OpsW.q rfl (q_load (v := S _) (by kernel_rfl) rfl (hS1.blk at0) rfl) ?_
  refine OpsW.q rfl (q_fieldAddr (sz := 0) Tryz.underlying23 rfl (by kernel_rfl) rfl) ?_
  refine OpsW.q rfl (q_load (v := S _) (by kernel_rfl) rfl (hS1.blk at0) rfl) ?_
  refine OpsW.m rfl (o_call rfl Tryz.func6 rfl rfl (NewBox_ok hz)) ?_
  rintro _ H2 ⟨b34, rfl, hR2⟩
  have hS2 := hS1.join hR2
  simp only [List.cons_append, List.nil_append] at hS2
  clear hR2 hS1
  refine OpsW.q rfl (q_move (v := .tuple _) rfl) ?_
  refine OpsW.q rfl (q_extract (v := .pointer _) rfl rfl) ?_
  refine OpsW.q rfl (q_extract (v := .int _ _) rfl rfl) ?_
  refine OpsW.q rfl (q_assign (v := .pointer _) rfl) ?_
  refine OpsW.q rfl (q_assign (v := .int _ _) rfl) ?_
  refine OpsW.nil ?_
  refine SeqP.go ?_
  refine AW.seq ?_
  refine AW.region ?_
  refine OpsW.q rfl (q_fieldAddr (sz := 0) Tryz.underlying23 rfl (by kernel_rfl) rfl) ?_
  refine OpsW.q rfl (q_load (v := .int _ _) (by kernel_rfl) rfl (hS2.blk at1) rfl) ?_
  refine OpsW.q rfl (q_fieldAddr (sz := 0) Tryz.underlying23 rfl (by kernel_rfl) rfl) ?_
  refine OpsW.q rfl (q_load (v := S _) (by kernel_rfl) rfl (hS2.blk at1) rfl) ?_
  refine OpsW.q rfl (q_fieldAddr (sz := 0) Tryz.underlying23 rfl (by kernel_rfl) rfl) ?_
  refine OpsW.q rfl (q_load (v := S _) (by kernel_rfl) rfl (hS2.blk at1) rfl) ?_
  refine OpsW.m rfl (o_call rfl Tryz.func6 rfl rfl (NewBox_ok hz)) ?_
  rintro _ H3 ⟨b44, rfl, hR3⟩
  have hS3 := hS2.join hR3
  simp only [List.cons_append, List.nil_append] at hS3
  clear hR3 hS2
  refine OpsW.q rfl (q_move (v := .tuple _) rfl) ?_
  refine OpsW.q rfl (q_extract (v := .pointer _) rfl rfl) ?_
  refine OpsW.q rfl (q_extract (v := .int _ _) rfl rfl) ?_
  refine OpsW.q rfl (q_assign (v := .pointer _) rfl) ?_
  refine OpsW.q rfl (q_assign (v := .int _ _) rfl) ?_
  refine OpsW.nil ?_
  refine SeqP.go ?_
  refine AW.seq ?_
  refine AW.region ?_
  refine OpsW.q rfl (q_fieldAddr (sz := 0) Tryz.underlying23 rfl (by kernel_rfl) rfl) ?_
  refine OpsW.q rfl (q_load (v := .int _ _) (by kernel_rfl) rfl (hS3.blk at2) rfl) ?_
  refine OpsW.q rfl (q_fieldAddr (sz := 0) Tryz.underlying23 rfl (by kernel_rfl) rfl) ?_
  refine OpsW.q rfl (q_load (v := S _) (by kernel_rfl) rfl (hS3.blk at2) rfl) ?_
  refine OpsW.q rfl (q_fieldAddr (sz := 0) Tryz.underlying23 rfl (by kernel_rfl) rfl) ?_
  refine OpsW.q rfl (q_load (v := S _) (by kernel_rfl) rfl (hS3.blk at2) rfl) ?_
  refine OpsW.m rfl (o_call rfl Tryz.func7 rfl rfl (NewBoxR_ok hz)) ?_
  rintro _ H4 ⟨b54, rfl, hR4⟩
  have hS4 := hS3.join hR4
  simp only [List.cons_append, List.nil_append] at hS4
  clear hR4 hS3
  refine OpsW.q rfl (q_move (v := .tuple _) rfl) ?_
  refine OpsW.q rfl (q_extract (v := .pointer _) rfl rfl) ?_
  refine OpsW.q rfl (q_extract (v := .int _ _) rfl rfl) ?_
  refine OpsW.q rfl (q_assign (v := .pointer _) rfl) ?_
  refine OpsW.q rfl (q_assign (v := .int _ _) rfl) ?_
  refine OpsW.nil ?_
  refine SeqP.go ?_
  refine AW.seq ?_
  refine AW.region ?_
  refine OpsW.q rfl (q_fieldAddr (sz := 0) Tryz.underlying23 rfl (by kernel_rfl) rfl) ?_
  refine OpsW.q rfl (q_load (v := .int _ _) (by kernel_rfl) rfl (hS4.blk at3) rfl) ?_
  refine OpsW.q rfl (q_fieldAddr (sz := 0) Tryz.underlying23 rfl (by kernel_rfl) rfl) ?_
  refine OpsW.q rfl (q_load (v := S _) (by kernel_rfl) rfl (hS4.blk at3) rfl) ?_
  refine OpsW.q rfl (q_fieldAddr (sz := 0) Tryz.underlying23 rfl (by kernel_rfl) rfl) ?_
  refine OpsW.q rfl (q_load (v := S _) (by kernel_rfl) rfl (hS4.blk at3) rfl) ?_
  refine OpsW.m rfl (o_call rfl Tryz.func7 rfl rfl (NewBoxR_ok hz)) ?_
  rintro _ H5 ⟨b64, rfl, hR5⟩
  have hS5 := hS4.join hR5
  simp only [List.cons_append, List.nil_append] at hS5
  clear hR5 hS4
  refine OpsW.q rfl (q_move (v := .tuple _) rfl) ?_
  refine OpsW.q rfl (q_extract (v := .pointer _) rfl rfl) ?_
  refine OpsW.q rfl (q_extract (v := .int _ _) rfl rfl) ?_
  refine OpsW.q rfl (q_assign (v := .pointer _) rfl) ?_
  refine OpsW.q rfl (q_assign (v := .int _ _) rfl) ?_
  refine OpsW.nil ?_
  refine SeqP.go ?_
  refine AW.seq ?_
  refine AW.seq ?_
  refine AW.region ?_
  refine OpsW.q rfl (q_move (v := .int _ _) rfl) ?_
  refine OpsW.q rfl (q_move (v := .int _ _) rfl) ?_
  refine OpsW.q rfl (q_neq rfl rfl) ?_
  refine OpsW.qb rfl (q_move (v := .bool _) rfl) ?_
  intro b70 eb70
  refine OpsW.g rfl rfl rfl (fun hB => by simp only [Bool.and_eq_true, beq_iff_eq] at hB; obtain rfl := hB; exact (q_move (v := .pointer _) rfl)) ?_
  refine OpsW.g rfl rfl rfl (fun hB => by simp only [Bool.and_eq_true, beq_iff_eq] at hB; obtain rfl := hB; exact (q_eqlP Tryz.underlying25 rfl rfl)) ?_
  refine OpsW.g rfl rfl rfl (fun hB => by simp only [Bool.and_eq_true, beq_iff_eq] at hB; obtain rfl := hB; exact (q_move (v := .pointer _) rfl)) ?_
  refine OpsW.g rfl rfl rfl (fun hB => by simp only [Bool.and_eq_true, beq_iff_eq] at hB; obtain rfl := hB; exact (q_eqlP Tryz.underlying29 rfl rfl)) ?_
  refine OpsW.g rfl rfl rfl (fun hB => by simp only [Bool.and_eq_true, beq_iff_eq] at hB; obtain rfl := hB; exact (q_neqB Tryz.underlying4 rfl rfl)) ?_
  refine OpsW.q rfl (q_or2 rfl rfl rfl) ?_
  refine OpsW.qb rfl (q_move (v := .bool _) rfl) ?_
  intro b77 eb77
  refine OpsW.g rfl rfl rfl (fun hB => by simp only [Bool.and_eq_true, beq_iff_eq] at hB; obtain rfl := hB; exact (q_move (v := .pointer _) rfl)) ?_
  refine OpsW.g rfl rfl rfl (fun hB => by simp only [Bool.and_eq_true, beq_iff_eq] at hB; obtain rfl := hB; exact (q_eqlP Tryz.underlying25 rfl rfl)) ?_
  refine OpsW.g rfl rfl rfl (fun hB => by simp only [Bool.and_eq_true, beq_iff_eq] at hB; obtain rfl := hB; exact (q_move (v := .pointer _) rfl)) ?_
  refine OpsW.g rfl rfl rfl (fun hB => by simp only [Bool.and_eq_true, beq_iff_eq] at hB; obtain rfl := hB; exact (q_eqlP Tryz.underlying29 rfl rfl)) ?_
  refine OpsW.g rfl rfl rfl (fun hB => by simp only [Bool.and_eq_true, beq_iff_eq] at hB; obtain rfl := hB; exact (q_neqB Tryz.underlying4 rfl rfl)) ?_
  refine OpsW.q rfl (q_or2 rfl rfl rfl) ?_
  refine OpsW.nil ?_
  refine SeqP.go ?_
  refine AW.cond rfl (fun h0 => ?_) (fun h0 => ?_)
  ·
   exfalso
   try simp only [eb70, eb77, z1, z2, z3, z4, z5, z6, z7, z8, z9, z10, z11, z12, z13, z14] at h0
   simp_all
  try simp only [eb70, eb77, z1, z2, z3, z4, z5, z6, z7, z8, z9, z10, z11, z12, z13, z14] at h0
  refine AW.skip ?_
  refine SeqP.go ?_
  refine AW.seq ?_
  refine AW.seq ?_
  refine AW.region ?_
  refine OpsW.q rfl (q_move (v := .pointer _) rfl) ?_
  refine OpsW.q rfl (q_eqlP Tryz.underlying29 rfl rfl) ?_
  refine OpsW.qb rfl (q_move (v := .bool _) rfl) ?_
  intro b86 eb86
  refine OpsW.g rfl rfl rfl (fun hB => by simp only [Bool.and_eq_true, beq_iff_eq] at hB; obtain rfl := hB; exact (q_move (v := .pointer _) rfl)) ?_
  refine OpsW.g rfl rfl rfl (fun hB => by simp only [Bool.and_eq_true, beq_iff_eq] at hB; obtain rfl := hB; exact (q_eqlP Tryz.underlying29 rfl rfl)) ?_
  refine OpsW.q rfl (q_or2 rfl rfl rfl) ?_
  refine OpsW.nil ?_
  refine SeqP.go ?_
  refine AW.cond rfl (fun h1 => ?_) (fun h1 => ?_)
  ·
   exfalso
   try simp only [eb70, eb77, eb86, z1, z2, z3, z4, z5, z6, z7, z8, z9, z10, z11, z12, z13, z14] at h1
   simp_all
  try simp only [eb70, eb77, eb86, z1, z2, z3, z4, z5, z6, z7, z8, z9, z10, z11, z12, z13, z14] at h1
  refine AW.skip ?_
  refine SeqP.go ?_
  refine AW.seq ?_
  refine AW.region ?_
  refine OpsW.q rfl (q_assign (v := .slice _ _ _) rfl) ?_
  refine OpsW.nil ?_
  refine SeqP.go ?_
  refine AW.seq ?_
  refine AW.seq ?_
  refine AW.region ?_
  refine OpsW.q rfl (q_assign (v := .int _ _) rfl) ?_
  refine OpsW.nil ?_
  refine SeqP.go ?_
  refine AW.block ?_
  replace hS5 := hS5.nil (el := 9) (sz := 1)
  refine AW.loop (fun m_ e_ H_ => ∃ (i : Nat) (x1 x2 : BoxS) (sl : StrL) (vo : Value) (e0 : Env), m_ = m - i ∧ (BoxOk x1 ∧ BoxOk x2 ∧ sl.length ≤ i ∧ i ≤ 20) ∧ e_ = upds e0 [(1, .slice rops m c), (5, .pointer (some ⟨b34, 0, none⟩)), (7, .pointer (some ⟨b44, 0, none⟩)), (9, .pointer (some ⟨b54, 0, none⟩)), (11, .pointer (some ⟨b64, 0, none⟩)), (13, vo), (14, .int .i64 (i : Int))] ∧ Sep H [.vec vo 9 1 sl.length (strs sl), .blk b64 ⟨bxCells x2, 4, 40⟩, .blk b54 ⟨bxCells x1, 4, 40⟩, .blk b44 (bxBlk x2), .blk b34 (bxBlk x1), .blk b2 ⟨[.int .i64 suite, S key, S iv], 3, 23⟩] H_) _ ⟨0, ⟨suite, key, iv, 0⟩, ⟨suite, key, iv, 0⟩, [], nilV, _, rfl, ⟨hok, hok, Nat.le_refl _, by omega⟩, Slots.eq ⟨(by rfl), (by rfl), (by rfl), (by rfl), (by rfl), (by rfl), (by rfl),  trivial⟩, (by exact hS5)⟩ ?_
  rintro m_ _ Hl0 ⟨i, x1, x2, sl, vo, e0, rfl, ⟨hI1, hI2, hsl, hi20⟩, rfl, hSl0⟩
  try clear hS5
  refine AW.seq ?_
  refine AW.seq ?_
  refine AW.region ?_
  refine OpsW.q rfl (q_move (v := .int _ _) rfl) ?_
  refine OpsW.q rfl (q_move (v := .slice _ _ _) rfl) ?_
  refine OpsW.q rfl (q_lenV Tryz.underlying42 rfl) ?_
  refine OpsW.q rfl (q_lss rfl rfl) ?_
  refine OpsW.qb rfl (q_move (v := .bool _) rfl) ?_
  intro b95 eb95
  refine OpsW.g rfl rfl rfl (fun hB => by simp only [Bool.and_eq_true, beq_iff_eq] at hB; obtain rfl := hB; exact (q_move (v := .int _ _) rfl)) ?_
  refine OpsW.g rfl rfl rfl (fun hB => by simp only [Bool.and_eq_true, beq_iff_eq] at hB; obtain rfl := hB; exact (q_lss rfl rfl)) ?_
  refine OpsW.q rfl (q_and2 rfl rfl rfl) ?_
  refine OpsW.nil ?_
  refine SeqP.go ?_
  refine AW.cond2 rfl (fun h2 => ?_) (fun h2 => ?_)
  ·
   try simp only [eb70, eb77, eb86, eb95, z1, z2, z3, z4, z5, z6, z7, z8, z9, z10, z11, z12, z13, z14] at h2
   refine AW.exit ?_
   refine SeqP.exit ?_
   refine LoopP.exit ?_
   refine BlockP.here ?_
   refine SeqP.go ?_
   refine AW.seq ?_
   refine AW.region ?_
   refine OpsW.q rfl (o_call rfl Tryz.func5 rfl rfl (awake_con)) ?_
   refine OpsW.q rfl (q_assign (v := .bool _) rfl) ?_
   refine OpsW.nil ?_
   refine SeqP.go ?_
   refine AW.ret ?_
   refine RetP.mk1 (H' := H) (v1 := .bool _) rfl rfl  hSl0.le ?_
   refine ⟨?_, rfl⟩
   simp_all
  try simp only [eb70, eb77, eb86, eb95, z1, z2, z3, z4, z5, z6, z7, z8, z9, z10, z11, z12, z13, z14] at h2
  have hi : i < m := by omega
  have hOi := hO i hi
  refine AW.skip ?_
  refine SeqP.go ?_
  refine AW.seq ?_
  refine AW.block ?_
  refine AW.seq ?_
  refine AW.region ?_
  refine OpsW.q rfl (q_move (v := .slice _ _ _) rfl) ?_
  refine OpsW.q rfl (q_move (v := .int _ _) rfl) ?_
  refine OpsW.q rfl (q_indexAddrR Tryz.underlying42 (by kernel_rfl) rfl rfl (by omega) (by omega) hrops) ?_
  refine OpsW.q rfl (q_loadR (sz := 6) (by kernel_rfl) rfl hrops (by omega)) ?_
  rw [Int.toNat_natCast]
  refine OpsW.m rfl (s_alloc (z := .agg #[.bool false, .bool false, .int .i64 0, S [], .int .i64 0, .int .i64 0]) (cs := [.bool false, .bool false, .int .i64 0, S [], .int .i64 0, .int .i64 0]) hSl0 (by kernel_rfl) rfl) ?_
  rintro _ H6 ⟨b15, rfl, hS6⟩
  clear hSl0
  refine OpsW.ms (s_storeS (n := 6) hS6 at0 (by kernel_rfl) rfl rfl rfl (ones_all rfl) rfl) ?_
  rintro _ H7 ⟨rfl, hS7⟩
  clear hS6
  refine OpsW.nil ?_
  refine SeqP.go ?_
  refine AW.seq ?_
  refine AW.seq ?_
  refine AW.region ?_
  refine OpsW.q rfl (q_fieldAddr (sz := 0) Tryz.underlying45 rfl (by kernel_rfl) rfl) ?_
  refine OpsW.q rfl (q_load (v := S _) (by kernel_rfl) rfl (hS7.blk at0) rfl) ?_
  refine OpsW.q rfl (q_lenS Tryz.underlying9 rfl) ?_
  refine OpsW.q rfl (q_gtr rfl rfl) ?_
  refine OpsW.qb rfl (q_move (v := .bool _) rfl) ?_
  intro b109 eb109
  refine OpsW.g rfl rfl rfl (fun hB => by simp only [Bool.and_eq_true, beq_iff_eq] at hB; obtain rfl := hB; exact (q_fieldAddr (sz := 0) Tryz.underlying45 rfl (by kernel_rfl) rfl)) ?_
  refine OpsW.g rfl rfl rfl (fun hB => by simp only [Bool.and_eq_true, beq_iff_eq] at hB; obtain rfl := hB; exact (q_load (v := .int _ _) (by kernel_rfl) rfl (hS7.blk at0) rfl)) ?_
  refine OpsW.g rfl rfl rfl (fun hB => by simp only [Bool.and_eq_true, beq_iff_eq] at hB; obtain rfl := hB; exact (q_gtr rfl rfl)) ?_
  refine OpsW.gb rfl rfl rfl (fun hB => by simp only [Bool.and_eq_true, beq_iff_eq] at hB; obtain rfl := hB; exact (q_move (v := .bool _) rfl)) ?_
  intro b113 eb113
  refine OpsW.gg rfl rfl rfl (fun hB => by simp only [Bool.and_eq_true, beq_iff_eq] at hB; obtain ⟨rfl, rfl⟩ := hB; exact (q_fieldAddr (sz := 0) Tryz.underlying45 rfl (by kernel_rfl) rfl)) ?_
  refine OpsW.gg rfl rfl rfl (fun hB => by simp only [Bool.and_eq_true, beq_iff_eq] at hB; obtain ⟨rfl, rfl⟩ := hB; exact (q_load (v := .int _ _) (by kernel_rfl) rfl (hS7.blk at0) rfl)) ?_
  refine OpsW.gg rfl rfl rfl (fun hB => by simp only [Bool.and_eq_true, beq_iff_eq] at hB; obtain ⟨rfl, rfl⟩ := hB; exact (q_lss rfl rfl)) ?_
  refine OpsW.g rfl rfl rfl (fun hB => by simp only [Bool.and_eq_true, beq_iff_eq] at hB; obtain rfl := hB; exact (q_and2 rfl rfl rfl)) ?_
  refine OpsW.q rfl (q_or2 rfl rfl rfl) ?_
  refine OpsW.nil ?_
  refine SeqP.go ?_
  refine AW.cond rfl (fun h3 => ?_) (fun h3 => ?_)
  ·
   try simp only [eb70, eb77, eb86, eb95, eb109, eb113, z1, z2, z3, z4, z5, z6, z7, z8, z9, z10, z11, z12, z13, z14] at h3
   refine AW.seq ?_
   refine AW.region ?_
   refine OpsW.q rfl (o_call rfl Tryz.func5 rfl rfl (awake_con)) ?_
   refine OpsW.q rfl (q_assign (v := .bool _) rfl) ?_
   refine OpsW.nil ?_
   refine SeqP.go ?_
   refine AW.ret ?_
   refine SeqP.ret ?_
   refine BlockP.ret ?_
   refine SeqP.ret ?_
   refine LoopP.ret ?_
   refine BlockP.ret ?_
   refine SeqP.ret ?_
   refine RetP.mk1 (H' := H) (v1 := .bool _) rfl rfl  hS7.le ?_
   refine ⟨?_, rfl⟩
   simp_all
  try simp only [eb70, eb77, eb86, eb95, eb109, eb113, z1, z2, z3, z4, z5, z6, z7, z8, z9, z10, z11, z12, z13, z14] at h3
  have hdat : (o i).dat.length ≤ 2000 := by simp_all <;> omega
  refine AW.skip ?_
  refine SeqP.go ?_
  refine AW.seq ?_
  refine AW.seq ?_
  refine AW.region ?_
  refine OpsW.q rfl (q_fieldAddr (sz := 0) Tryz.underlying45 rfl (by kernel_rfl) rfl) ?_
  refine OpsW.q rfl (q_load (v := .bool _) (by kernel_rfl) rfl (hS7.blk at0) rfl) ?_
  refine OpsW.q rfl (q_not rfl) ?_
  refine OpsW.qb rfl (q_move (v := .bool _) rfl) ?_
  intro b123 eb123
  refine OpsW.g rfl rfl rfl (fun hB => by simp only [Bool.and_eq_true, beq_iff_eq] at hB; obtain rfl := hB; exact (q_fieldAddr (sz := 0) Tryz.underlying45 rfl (by kernel_rfl) rfl)) ?_
  refine OpsW.g rfl rfl rfl (fun hB => by simp only [Bool.and_eq_true, beq_iff_eq] at hB; obtain rfl := hB; exact (q_load (v := .bool _) (by kernel_rfl) rfl (hS7.blk at0) rfl)) ?_
  refine OpsW.g rfl rfl rfl (fun hB => by simp only [Bool.and_eq_true, beq_iff_eq] at hB; obtain rfl := hB; exact (q_not rfl)) ?_
  refine OpsW.q rfl (q_and2 rfl rfl rfl) ?_
  refine OpsW.nil ?_
  refine SeqP.go ?_
  refine AW.cond rfl (fun h4 => ?_) (fun h4 => ?_)
  ·
   try simp only [eb70, eb77, eb86, eb95, eb109, eb113, eb123, z1, z2, z3, z4, z5, z6, z7, z8, z9, z10, z11, z12, z13, z14] at h4
   refine AW.seq ?_
   refine AW.region ?_
   refine OpsW.q rfl (q_move (v := .pointer _) rfl) ?_
   refine OpsW.q rfl (q_fieldAddr (sz := 0) Tryz.underlying45 rfl (by kernel_rfl) rfl) ?_
   refine OpsW.q rfl (q_load (v := .int _ _) (by kernel_rfl) rfl (hS7.blk at0) rfl) ?_
   refine OpsW.q rfl (q_fieldAddr (sz := 0) Tryz.underlying45 rfl (by kernel_rfl) rfl) ?_
   refine OpsW.q rfl (q_load (v := S _) (by kernel_rfl) rfl (hS7.blk at0) rfl) ?_
   refine OpsW.q rfl (q_fieldAddr (sz := 0) Tryz.underlying45 rfl (by kernel_rfl) rfl) ?_
   refine OpsW.q rfl (q_load (v := .int _ _) (by kernel_rfl) rfl (hS7.blk at0) rfl) ?_
   obtain ⟨Hf8, le8, hA8, hB8⟩ := hS7.framed at5
   refine OpsW.m rfl (o_call rfl Tryz.func12 rfl rfl (bSeal_s hA8 hI1 _ _ (by unfold maxLen; omega))) ?_
   rintro _ H8 ⟨rfl, hR8⟩
   have hS8 := hB8 _ _ hR8
   clear hR8 hB8 hA8
   clear hS7
   refine OpsW.q rfl (q_move (v := .tuple _) rfl) ?_
   refine OpsW.q rfl (q_extract (v := S _) rfl rfl) ?_
   refine OpsW.q rfl (q_extract (v := .int _ _) rfl rfl) ?_
   refine OpsW.q rfl (q_assign (v := S _) rfl) ?_
   refine OpsW.q rfl (q_assign (v := .int _ _) rfl) ?_
   refine OpsW.nil ?_
   refine SeqP.go ?_
   refine AW.seq ?_
   refine AW.region ?_
   refine OpsW.q rfl (q_move (v := .pointer _) rfl) ?_
   refine OpsW.q rfl (q_fieldAddr (sz := 0) Tryz.underlying45 rfl (by kernel_rfl) rfl) ?_
   refine OpsW.q rfl (q_load (v := .int _ _) (by kernel_rfl) rfl (hS8.blk at0) rfl) ?_
   refine OpsW.q rfl (q_fieldAddr (sz := 0) Tryz.underlying45 rfl (by kernel_rfl) rfl) ?_
   refine OpsW.q rfl (q_load (v := S _) (by kernel_rfl) rfl (hS8.blk at0) rfl) ?_
   refine OpsW.q rfl (q_fieldAddr (sz := 0) Tryz.underlying45 rfl (by kernel_rfl) rfl) ?_
   refine OpsW.q rfl (q_load (v := .int _ _) (by kernel_rfl) rfl (hS8.blk at0) rfl) ?_
   obtain ⟨Hf9, le9, hA9, hB9⟩ := hS8.framed at3
   refine OpsW.m rfl (o_call rfl Tryz.func13 rfl rfl (bSealR_s hA9 hI1 _ _ (by unfold maxLen; omega) hOi.2)) ?_
   rintro _ H9 ⟨rfl, hR9⟩
   have hS9 := hB9 _ _ hR9
   clear hR9 hB9 hA9
   clear hS8
   refine OpsW.q rfl (q_move (v := .tuple _) rfl) ?_
   refine OpsW.q rfl (q_extract (v := S _) rfl rfl) ?_
   refine OpsW.q rfl (q_extract (v := .int _ _) rfl rfl) ?_
   refine OpsW.q rfl (q_assign (v := S _) rfl) ?_
   refine OpsW.q rfl (q_assign (v := .int _ _) rfl) ?_
   refine OpsW.nil ?_
   refine SeqP.go ?_
   refine AW.seq ?_
   refine AW.seq ?_
   refine AW.region ?_
   refine OpsW.q rfl (q_move (v := S _) rfl) ?_
   refine OpsW.q rfl (q_move (v := S _) rfl) ?_
   refine OpsW.q rfl (q_neS rfl rfl) ?_
   refine OpsW.qb rfl (q_move (v := .bool _) rfl) ?_
   intro b153 eb153
   refine OpsW.g rfl rfl rfl (fun hB => by simp only [Bool.and_eq_true, beq_iff_eq] at hB; obtain rfl := hB; exact (q_move (v := .int _ _) rfl)) ?_
   refine OpsW.g rfl rfl rfl (fun hB => by simp only [Bool.and_eq_true, beq_iff_eq] at hB; obtain rfl := hB; exact (q_move (v := .int _ _) rfl)) ?_
   refine OpsW.g rfl rfl rfl (fun hB => by simp only [Bool.and_eq_true, beq_iff_eq] at hB; obtain rfl := hB; exact (q_neq rfl rfl)) ?_
   refine OpsW.q rfl (q_or2 rfl rfl rfl) ?_
   refine OpsW.nil ?_
   refine SeqP.go ?_
   refine AW.cond rfl (fun h5 => ?_) (fun h5 => ?_)
   ·
    exfalso
    try simp only [eb70, eb77, eb86, eb95, eb109, eb113, eb123, eb153, z1, z2, z3, z4, z5, z6, z7, z8, z9, z10, z11, z12, z13, z14] at h5
    simp_all
   try simp only [eb70, eb77, eb86, eb95, eb109, eb113, eb123, eb153, z1, z2, z3, z4, z5, z6, z7, z8, z9, z10, z11, z12, z13, z14] at h5
   refine AW.skip ?_
   refine SeqP.go ?_
   refine AW.seq ?_
   refine AW.region ?_
   refine OpsW.q rfl (q_move (v := .int _ _) rfl) ?_
   refine OpsW.q rfl (q_eql rfl rfl) ?_
   refine OpsW.nil ?_
   refine SeqP.go ?_
   refine AW.cond rfl (fun h6 => ?_) (fun h6 => ?_)
   ·
    try simp only [eb70, eb77, eb86, eb95, eb109, eb113, eb123, eb153, z1, z2, z3, z4, z5, z6, z7, z8, z9, z10, z11, z12, z13, z14] at h6
    have hlong := (bxSeal_zero (x := x1) h6).2
    refine AW.region ?_
    refine OpsW.q rfl (q_move (v := vo) rfl) ?_
    refine OpsW.q rfl (q_move (v := S _) rfl) ?_
    refine OpsW.q rfl (q_sliceS_lo Tryz.underlying9 rfl rfl (by omega) (by omega)) ?_
    refine OpsW.m rfl (s_buildSlice (z := S []) (vs := strs [_]) hS9 Tryz.underlying43 (by kernel_rfl) (by kernel_rfl) rfl (by rfl) (by rfl) (by decide) rfl (strs_one _) rfl) ?_
    rintro v163 H10 hS10
    clear hS9
    refine OpsW.m rfl (s_append (sz := 1) (by_ := 16) (z := S []) hS10 at2 Tryz.underlying43 (by kernel_rfl) (by kernel_rfl) (by kernel_rfl) rfl (by kernel_rfl) rfl rfl (src_vec (hS10.vec at0) (strs_one _)) (by unfold maxLen; omega) (by omega)) ?_
    rintro v164 H11 hS11
    clear hS10
    replace hS11 := hS11.del del0
    refine OpsW.q rfl (q_assign (v := v164) rfl) ?_
    refine OpsW.nil ?_
    refine SeqP.go ?_
    refine AW.seq ?_
    refine AW.drawK [] 14 rfl (by kernel_rfl) ?_
    refine SeqK.q rfl (q_move (v := .pointer _) rfl) ?_
    refine SeqK.q rfl (o_call rfl Tryz.func11 rfl rfl (Count_con (hS11.blk at5))) ?_
    refine SeqK.q rfl (q_move (v := .pointer _) rfl) ?_
    refine SeqK.q rfl (q_nilCheck rfl) ?_
    refine SeqK.q rfl (q_fieldAddr (sz := 0) Tryz.underlying40 rfl (by kernel_rfl) rfl) ?_
    refine SeqK.q rfl (q_load (v := .int _ _) (by kernel_rfl) rfl (hS11.blk at3) rfl) ?_
    refine SeqK.q rfl (q_neq rfl rfl) ?_
    refine SeqK.qb rfl (q_move (v := .bool _) rfl) ?_
    intro b222 eb222
    refine SeqK.g rfl rfl rfl (fun hB => by simp only [Bool.and_eq_true, beq_iff_eq] at hB; obtain rfl := hB; exact (q_move (v := .pointer _) rfl)) ?_
    refine SeqK.g rfl rfl rfl (fun hB => by simp only [Bool.and_eq_true, beq_iff_eq] at hB; obtain rfl := hB; exact (o_call rfl Tryz.func11 rfl rfl (Count_con (hS11.blk at4)))) ?_
    refine SeqK.g rfl rfl rfl (fun hB => by simp only [Bool.and_eq_true, beq_iff_eq] at hB; obtain rfl := hB; exact (q_move (v := .pointer _) rfl)) ?_
    refine SeqK.g rfl rfl rfl (fun hB => by simp only [Bool.and_eq_true, beq_iff_eq] at hB; obtain rfl := hB; exact (q_nilCheck rfl)) ?_
    refine SeqK.g rfl rfl rfl (fun hB => by simp only [Bool.and_eq_true, beq_iff_eq] at hB; obtain rfl := hB; exact (q_fieldAddr (sz := 0) Tryz.underlying40 rfl (by kernel_rfl) rfl)) ?_
    refine SeqK.g rfl rfl rfl (fun hB => by simp only [Bool.and_eq_true, beq_iff_eq] at hB; obtain rfl := hB; exact (q_load (v := .int _ _) (by kernel_rfl) rfl (hS11.blk at2) rfl)) ?_
    refine SeqK.done ?_
    refine OpsW.g rfl rfl rfl (fun hB => by simp only [Bool.and_eq_true, beq_iff_eq] at hB; obtain rfl := hB; exact (q_neq rfl rfl)) ?_
    refine OpsW.q rfl (q_or2 rfl rfl rfl) ?_
    refine OpsW.nil ?_
    refine SeqP.go ?_
    refine AW.cond rfl (fun h9 => ?_) (fun h9 => ?_)
    ·
     exfalso
     try simp only [eb70, eb77, eb86, eb95, eb109, eb113, eb123, eb153, eb222, z1, z2, z3, z4, z5, z6, z7, z8, z9, z10, z11, z12, z13, z14] at h9
     simp_all
    try simp only [eb70, eb77, eb86, eb95, eb109, eb113, eb123, eb153, eb222, z1, z2, z3, z4, z5, z6, z7, z8, z9, z10, z11, z12, z13, z14] at h9
    refine AW.skip ?_
    refine BlockP.go ?_
    refine SeqP.go ?_
    refine AW.region ?_
    refine OpsW.q rfl (q_move (v := .int _ _) rfl) ?_
    refine OpsW.q rfl (q_addI rfl rfl (by omega)) ?_
    refine OpsW.q rfl (q_assign (v := .int _ _) rfl) ?_
    refine OpsW.nil ?_
    replace hS11 := hS11.del del0
    exact LoopP.go _ (by omega) ⟨i + 1, bxAfter x1 (o i).kind (o i).dat (o i).pad, x2, sl ++ [(bxSeal x1 (o i).kind (o i).dat (o i).pad).1.drop 5], v164, _, rfl, ⟨by first | exact hI1 | exact bxAfter_ok hI1, by first | exact hI2 | exact bxNext_ok hI2, by first | omega | (simp; omega), by omega⟩, Slots.eq ⟨(by rfl), (by rfl), (by rfl), (by rfl), (by rfl), (by rfl), (by rfl),  trivial⟩, (by first | exact hS11 | (rw [List.length_append, strs_append]; exact hS11))⟩
   try simp only [eb70, eb77, eb86, eb95, eb109, eb113, eb123, eb153, z1, z2, z3, z4, z5, z6, z7, z8, z9, z10, z11, z12, z13, z14] at h6
   refine AW.skip ?_
   refine SeqP.go ?_
   refine AW.seq ?_
   refine AW.drawK [] 14 rfl (by kernel_rfl) ?_
   refine SeqK.q rfl (q_move (v := .pointer _) rfl) ?_
   refine SeqK.q rfl (o_call rfl Tryz.func11 rfl rfl (Count_con (hS9.blk at5))) ?_
   refine SeqK.q rfl (q_move (v := .pointer _) rfl) ?_
   refine SeqK.q rfl (q_nilCheck rfl) ?_
   refine SeqK.q rfl (q_fieldAddr (sz := 0) Tryz.underlying40 rfl (by kernel_rfl) rfl) ?_
   refine SeqK.q rfl (q_load (v := .int _ _) (by kernel_rfl) rfl (hS9.blk at3) rfl) ?_
   refine SeqK.q rfl (q_neq rfl rfl) ?_
   refine SeqK.qb rfl (q_move (v := .bool _) rfl) ?_
   intro b222 eb222
   refine SeqK.g rfl rfl rfl (fun hB => by simp only [Bool.and_eq_true, beq_iff_eq] at hB; obtain rfl := hB; exact (q_move (v := .pointer _) rfl)) ?_
   refine SeqK.g rfl rfl rfl (fun hB => by simp only [Bool.and_eq_true, beq_iff_eq] at hB; obtain rfl := hB; exact (o_call rfl Tryz.func11 rfl rfl (Count_con (hS9.blk at4)))) ?_
   refine SeqK.g rfl rfl rfl (fun hB => by simp only [Bool.and_eq_true, beq_iff_eq] at hB; obtain rfl := hB; exact (q_move (v := .pointer _) rfl)) ?_
   refine SeqK.g rfl rfl rfl (fun hB => by simp only [Bool.and_eq_true, beq_iff_eq] at hB; obtain rfl := hB; exact (q_nilCheck rfl)) ?_
   refine SeqK.g rfl rfl rfl (fun hB => by simp only [Bool.and_eq_true, beq_iff_eq] at hB; obtain rfl := hB; exact (q_fieldAddr (sz := 0) Tryz.underlying40 rfl (by kernel_rfl) rfl)) ?_
   refine SeqK.g rfl rfl rfl (fun hB => by simp only [Bool.and_eq_true, beq_iff_eq] at hB; obtain rfl := hB; exact (q_load (v := .int _ _) (by kernel_rfl) rfl (hS9.blk at2) rfl)) ?_
   refine SeqK.done ?_
   refine OpsW.g rfl rfl rfl (fun hB => by simp only [Bool.and_eq_true, beq_iff_eq] at hB; obtain rfl := hB; exact (q_neq rfl rfl)) ?_
   refine OpsW.q rfl (q_or2 rfl rfl rfl) ?_
   refine OpsW.nil ?_
   refine SeqP.go ?_
   refine AW.cond rfl (fun h9 => ?_) (fun h9 => ?_)
   ·
    exfalso
    try simp only [eb70, eb77, eb86, eb95, eb109, eb113, eb123, eb153, eb222, z1, z2, z3, z4, z5, z6, z7, z8, z9, z10, z11, z12, z13, z14] at h9
    simp_all
   try simp only [eb70, eb77, eb86, eb95, eb109, eb113, eb123, eb153, eb222, z1, z2, z3, z4, z5, z6, z7, z8, z9, z10, z11, z12, z13, z14] at h9
   refine AW.skip ?_
   refine BlockP.go ?_
   refine SeqP.go ?_
   refine AW.region ?_
   refine OpsW.q rfl (q_move (v := .int _ _) rfl) ?_
   refine OpsW.q rfl (q_addI rfl rfl (by omega)) ?_
   refine OpsW.q rfl (q_assign (v := .int _ _) rfl) ?_
   refine OpsW.nil ?_
   replace hS9 := hS9.del del0
   exact LoopP.go _ (by omega) ⟨i + 1, bxAfter x1 (o i).kind (o i).dat (o i).pad, x2, sl, vo, _, rfl, ⟨by first | exact hI1 | exact bxAfter_ok hI1, by first | exact hI2 | exact bxNext_ok hI2, by first | omega | (simp; omega), by omega⟩, Slots.eq ⟨(by rfl), (by rfl), (by rfl), (by rfl), (by rfl), (by rfl), (by rfl),  trivial⟩, (by first | exact hS9 | (rw [List.length_append, strs_append]; exact hS9))⟩
  try simp only [eb70, eb77, eb86, eb95, eb109, eb113, eb123, z1, z2, z3, z4, z5, z6, z7, z8, z9, z10, z11, z12, z13, z14] at h4
  refine AW.seq ?_
  refine AW.region ?_
  refine OpsW.q rfl (q_fieldAddr (sz := 0) Tryz.underlying45 rfl (by kernel_rfl) rfl) ?_
  refine OpsW.q rfl (q_load (v := S _) (by kernel_rfl) rfl (hS7.blk at0) rfl) ?_
  refine OpsW.q rfl (q_assign (v := S _) rfl) ?_
  refine OpsW.nil ?_
  refine SeqP.go ?_
  refine AW.seq ?_
  refine AW.seq ?_
  refine AW.region ?_
  refine OpsW.q rfl (q_fieldAddr (sz := 0) Tryz.underlying45 rfl (by kernel_rfl) rfl) ?_
  refine OpsW.q rfl (q_load (v := .bool _) (by kernel_rfl) rfl (hS7.blk at0) rfl) ?_
  refine OpsW.qb rfl (q_move (v := .bool _) rfl) ?_
  intro b169 eb169
  refine OpsW.g rfl rfl rfl (fun hB => by simp only [Bool.and_eq_true, beq_iff_eq] at hB; obtain rfl := hB; exact (q_move (v := vo) rfl)) ?_
  refine OpsW.g rfl rfl rfl (fun hB => by simp only [Bool.and_eq_true, beq_iff_eq] at hB; obtain rfl := hB; exact (q_lenVec Tryz.underlying43 rfl (hS7.vec at1))) ?_
  refine OpsW.g rfl rfl rfl (fun hB => by simp only [Bool.and_eq_true, beq_iff_eq] at hB; obtain rfl := hB; exact (q_gtr rfl rfl)) ?_
  refine OpsW.q rfl (q_and2 rfl rfl rfl) ?_
  refine OpsW.nil ?_
  refine SeqP.go ?_
  refine AW.cond rfl (fun h7 => ?_) (fun h7 => ?_)
  ·
   try simp only [eb70, eb77, eb86, eb95, eb109, eb113, eb123, eb169, z1, z2, z3, z4, z5, z6, z7, z8, z9, z10, z11, z12, z13, z14] at h7
   refine AW.region ?_
   refine OpsW.q rfl (q_move (v := vo) rfl) ?_
   refine OpsW.q rfl (q_fieldAddr (sz := 0) Tryz.underlying45 rfl (by kernel_rfl) rfl) ?_
   refine OpsW.q rfl (q_load (v := .int _ _) (by kernel_rfl) rfl (hS7.blk at0) rfl) ?_
   refine OpsW.q rfl (q_move (v := vo) rfl) ?_
   refine OpsW.q rfl (q_lenVec Tryz.underlying43 rfl (hS7.vec at1)) ?_
   refine OpsW.q rfl (q_rem rfl rfl (by omega)) ?_
   have hlz : 0 < sl.length := by omega
   have hrb := tmod_in (o i).n hlz
   obtain ⟨r, hr⟩ : ∃ r, r = ((o i).n).tmod (sl.length : Int) := ⟨_, rfl⟩
   rw [← hr] at hrb ⊢
   refine OpsW.q rfl (q_move (v := vo) rfl) ?_
   refine OpsW.q rfl (q_lenVec Tryz.underlying43 rfl (hS7.vec at1)) ?_
   refine OpsW.q rfl (q_addI rfl rfl (by omega)) ?_
   refine OpsW.q rfl (q_move (v := vo) rfl) ?_
   refine OpsW.q rfl (q_lenVec Tryz.underlying43 rfl (hS7.vec at1)) ?_
   refine OpsW.q rfl (q_remI rfl rfl (by omega)) ?_
   obtain ⟨q, hq, hq1⟩ := emod_in (r + (sl.length : Int)) hlz
   rw [hq]
   refine OpsW.q rfl (q_indexV1 (hS7.vec at1) Tryz.underlying43 (by kernel_rfl) rfl rfl (by omega) (by omega)) ?_
   refine OpsW.q rfl (q_loadVS (hS7.vec at1) (by kernel_rfl) rfl (by omega)) ?_
   rw [Int.toNat_natCast]
   refine OpsW.q rfl (q_assign (v := S _) rfl) ?_
   refine OpsW.nil ?_
   refine SeqP.go ?_
   refine AW.seq ?_
   refine AW.region ?_
   refine OpsW.q rfl (q_move (v := .pointer _) rfl) ?_
   refine OpsW.q rfl (q_move (v := S _) rfl) ?_
   obtain ⟨Hf12, le12, hA12, hB12⟩ := hS7.framed at4
   refine OpsW.m rfl (o_call rfl Tryz.func9 rfl rfl (bOpen_s hA12 hI2)) ?_
   rintro _ H12 ⟨rfl, hR12⟩
   have hS12 := hB12 _ _ hR12
   clear hR12 hB12 hA12
   clear hS7
   refine OpsW.q rfl (q_move (v := .tuple _) rfl) ?_
   refine OpsW.q rfl (q_extract (v := .int _ _) rfl rfl) ?_
   refine OpsW.q rfl (q_extract (v := S _) rfl rfl) ?_
   refine OpsW.q rfl (q_extract (v := .int _ _) rfl rfl) ?_
   refine OpsW.q rfl (q_assign (v := .int _ _) rfl) ?_
   refine OpsW.q rfl (q_assign (v := S _) rfl) ?_
   refine OpsW.q rfl (q_assign (v := .int _ _) rfl) ?_
   refine OpsW.nil ?_
   refine SeqP.go ?_
   refine AW.seq ?_
   refine AW.region ?_
   refine OpsW.q rfl (q_move (v := .pointer _) rfl) ?_
   refine OpsW.q rfl (q_move (v := S _) rfl) ?_
   obtain ⟨Hf13, le13, hA13, hB13⟩ := hS12.framed at2
   refine OpsW.m rfl (o_call rfl Tryz.func10 rfl rfl (bOpenR_s hA13 hI2)) ?_
   rintro _ H13 ⟨rfl, hR13⟩
   have hS13 := hB13 _ _ hR13
   clear hR13 hB13 hA13
   clear hS12
   refine OpsW.q rfl (q_move (v := .tuple _) rfl) ?_
   refine OpsW.q rfl (q_extract (v := .int _ _) rfl rfl) ?_
   refine OpsW.q rfl (q_extract (v := S _) rfl rfl) ?_
   refine OpsW.q rfl (q_extract (v := .int _ _) rfl rfl) ?_
   refine OpsW.q rfl (q_assign (v := .int _ _) rfl) ?_
   refine OpsW.q rfl (q_assign (v := S _) rfl) ?_
   refine OpsW.q rfl (q_assign (v := .int _ _) rfl) ?_
   refine OpsW.nil ?_
   refine SeqP.go ?_
   refine AW.seq ?_
   refine AW.region ?_
   refine OpsW.q rfl (q_move (v := .int _ _) rfl) ?_
   refine OpsW.q rfl (q_move (v := .int _ _) rfl) ?_
   refine OpsW.q rfl (q_neq rfl rfl) ?_
   refine OpsW.qb rfl (q_move (v := .bool _) rfl) ?_
   intro b205 eb205
   refine OpsW.g rfl rfl rfl (fun hB => by simp only [Bool.and_eq_true, beq_iff_eq] at hB; obtain rfl := hB; exact (q_move (v := S _) rfl)) ?_
   refine OpsW.g rfl rfl rfl (fun hB => by simp only [Bool.and_eq_true, beq_iff_eq] at hB; obtain rfl := hB; exact (q_move (v := S _) rfl)) ?_
   refine OpsW.g rfl rfl rfl (fun hB => by simp only [Bool.and_eq_true, beq_iff_eq] at hB; obtain rfl := hB; exact (q_neS rfl rfl)) ?_
   refine OpsW.q rfl (q_or2 rfl rfl rfl) ?_
   refine OpsW.qb rfl (q_move (v := .bool _) rfl) ?_
   intro b210 eb210
   refine OpsW.g rfl rfl rfl (fun hB => by simp only [Bool.and_eq_true, beq_iff_eq] at hB; obtain rfl := hB; exact (q_move (v := .int _ _) rfl)) ?_
   refine OpsW.g rfl rfl rfl (fun hB => by simp only [Bool.and_eq_true, beq_iff_eq] at hB; obtain rfl := hB; exact (q_move (v := .int _ _) rfl)) ?_
   refine OpsW.g rfl rfl rfl (fun hB => by simp only [Bool.and_eq_true, beq_iff_eq] at hB; obtain rfl := hB; exact (q_neq rfl rfl)) ?_
   refine OpsW.q rfl (q_or2 rfl rfl rfl) ?_
   refine OpsW.nil ?_
   refine SeqP.go ?_
   refine AW.cond rfl (fun h8 => ?_) (fun h8 => ?_)
   ·
    exfalso
    try simp only [eb70, eb77, eb86, eb95, eb109, eb113, eb123, eb169, eb205, eb210, z1, z2, z3, z4, z5, z6, z7, z8, z9, z10, z11, z12, z13, z14] at h8
    simp_all
   try simp only [eb70, eb77, eb86, eb95, eb109, eb113, eb123, eb169, eb205, eb210, z1, z2, z3, z4, z5, z6, z7, z8, z9, z10, z11, z12, z13, z14] at h8
   refine AW.skip ?_
   refine SeqP.go ?_
   refine AW.seq ?_
   refine AW.drawK [] 14 rfl (by kernel_rfl) ?_
   refine SeqK.q rfl (q_move (v := .pointer _) rfl) ?_
   refine SeqK.q rfl (o_call rfl Tryz.func11 rfl rfl (Count_con (hS13.blk at5))) ?_
   refine SeqK.q rfl (q_move (v := .pointer _) rfl) ?_
   refine SeqK.q rfl (q_nilCheck rfl) ?_
   refine SeqK.q rfl (q_fieldAddr (sz := 0) Tryz.underlying40 rfl (by kernel_rfl) rfl) ?_
   refine SeqK.q rfl (q_load (v := .int _ _) (by kernel_rfl) rfl (hS13.blk at3) rfl) ?_
   refine SeqK.q rfl (q_neq rfl rfl) ?_
   refine SeqK.qb rfl (q_move (v := .bool _) rfl) ?_
   intro b222 eb222
   refine SeqK.g rfl rfl rfl (fun hB => by simp only [Bool.and_eq_true, beq_iff_eq] at hB; obtain rfl := hB; exact (q_move (v := .pointer _) rfl)) ?_
   refine SeqK.g rfl rfl rfl (fun hB => by simp only [Bool.and_eq_true, beq_iff_eq] at hB; obtain rfl := hB; exact (o_call rfl Tryz.func11 rfl rfl (Count_con (hS13.blk at4)))) ?_
   refine SeqK.g rfl rfl rfl (fun hB => by simp only [Bool.and_eq_true, beq_iff_eq] at hB; obtain rfl := hB; exact (q_move (v := .pointer _) rfl)) ?_
   refine SeqK.g rfl rfl rfl (fun hB => by simp only [Bool.and_eq_true, beq_iff_eq] at hB; obtain rfl := hB; exact (q_nilCheck rfl)) ?_
   refine SeqK.g rfl rfl rfl (fun hB => by simp only [Bool.and_eq_true, beq_iff_eq] at hB; obtain rfl := hB; exact (q_fieldAddr (sz := 0) Tryz.underlying40 rfl (by kernel_rfl) rfl)) ?_
   refine SeqK.g rfl rfl rfl (fun hB => by simp only [Bool.and_eq_true, beq_iff_eq] at hB; obtain rfl := hB; exact (q_load (v := .int _ _) (by kernel_rfl) rfl (hS13.blk at2) rfl)) ?_
   refine SeqK.done ?_
   refine OpsW.g rfl rfl rfl (fun hB => by simp only [Bool.and_eq_true, beq_iff_eq] at hB; obtain rfl := hB; exact (q_neq rfl rfl)) ?_
   refine OpsW.q rfl (q_or2 rfl rfl rfl) ?_
   refine OpsW.nil ?_
   refine SeqP.go ?_
   refine AW.cond rfl (fun h9 => ?_) (fun h9 => ?_)
   ·
    exfalso
    try simp only [eb70, eb77, eb86, eb95, eb109, eb113, eb123, eb169, eb205, eb210, eb222, z1, z2, z3, z4, z5, z6, z7, z8, z9, z10, z11, z12, z13, z14] at h9
    simp_all
   try simp only [eb70, eb77, eb86, eb95, eb109, eb113, eb123, eb169, eb205, eb210, eb222, z1, z2, z3, z4, z5, z6, z7, z8, z9, z10, z11, z12, z13, z14] at h9
   refine AW.skip ?_
   refine BlockP.go ?_
   refine SeqP.go ?_
   refine AW.region ?_
   refine OpsW.q rfl (q_move (v := .int _ _) rfl) ?_
   refine OpsW.q rfl (q_addI rfl rfl (by omega)) ?_
   refine OpsW.q rfl (q_assign (v := .int _ _) rfl) ?_
   refine OpsW.nil ?_
   replace hS13 := hS13.del del0
   exact LoopP.go _ (by omega) ⟨i + 1, x1, bxNext x2 (sl.getD q []), sl, vo, _, rfl, ⟨by first | exact hI1 | exact bxAfter_ok hI1, by first | exact hI2 | exact bxNext_ok hI2, by first | omega | (simp; omega), by omega⟩, Slots.eq ⟨(by rfl), (by rfl), (by rfl), (by rfl), (by rfl), (by rfl), (by rfl),  trivial⟩, (by first | exact hS13 | (rw [List.length_append, strs_append]; exact hS13))⟩
  try simp only [eb70, eb77, eb86, eb95, eb109, eb113, eb123, eb169, z1, z2, z3, z4, z5, z6, z7, z8, z9, z10, z11, z12, z13, z14] at h7
  refine AW.skip ?_
  refine SeqP.go ?_
  refine AW.seq ?_
  refine AW.region ?_
  refine OpsW.q rfl (q_move (v := .pointer _) rfl) ?_
  refine OpsW.q rfl (q_move (v := S _) rfl) ?_
  obtain ⟨Hf14, le14, hA14, hB14⟩ := hS7.framed at4
  refine OpsW.m rfl (o_call rfl Tryz.func9 rfl rfl (bOpen_s hA14 hI2)) ?_
  rintro _ H14 ⟨rfl, hR14⟩
  have hS14 := hB14 _ _ hR14
  clear hR14 hB14 hA14
  clear hS7
  refine OpsW.q rfl (q_move (v := .tuple _) rfl) ?_
  refine OpsW.q rfl (q_extract (v := .int _ _) rfl rfl) ?_
  refine OpsW.q rfl (q_extract (v := S _) rfl rfl) ?_
  refine OpsW.q rfl (q_extract (v := .int _ _) rfl rfl) ?_
  refine OpsW.q rfl (q_assign (v := .int _ _) rfl) ?_
  refine OpsW.q rfl (q_assign (v := S _) rfl) ?_
  refine OpsW.q rfl (q_assign (v := .int _ _) rfl) ?_
  refine OpsW.nil ?_
  refine SeqP.go ?_
  refine AW.seq ?_
  refine AW.region ?_
  refine OpsW.q rfl (q_move (v := .pointer _) rfl) ?_
  refine OpsW.q rfl (q_move (v := S _) rfl) ?_
  obtain ⟨Hf15, le15, hA15, hB15⟩ := hS14.framed at2
  refine OpsW.m rfl (o_call rfl Tryz.func10 rfl rfl (bOpenR_s hA15 hI2)) ?_
  rintro _ H15 ⟨rfl, hR15⟩
  have hS15 := hB15 _ _ hR15
  clear hR15 hB15 hA15
  clear hS14
  refine OpsW.q rfl (q_move (v := .tuple _) rfl) ?_
  refine OpsW.q rfl (q_extract (v := .int _ _) rfl rfl) ?_
  refine OpsW.q rfl (q_extract (v := S _) rfl rfl) ?_
  refine OpsW.q rfl (q_extract (v := .int _ _) rfl rfl) ?_
  refine OpsW.q rfl (q_assign (v := .int _ _) rfl) ?_
  refine OpsW.q rfl (q_assign (v := S _) rfl) ?_
  refine OpsW.q rfl (q_assign (v := .int _ _) rfl) ?_
  refine OpsW.nil ?_
  refine SeqP.go ?_
  refine AW.seq ?_
  refine AW.region ?_
  refine OpsW.q rfl (q_move (v := .int _ _) rfl) ?_
  refine OpsW.q rfl (q_move (v := .int _ _) rfl) ?_
  refine OpsW.q rfl (q_neq rfl rfl) ?_
  refine OpsW.qb rfl (q_move (v := .bool _) rfl) ?_
  intro b205 eb205
  refine OpsW.g rfl rfl rfl (fun hB => by simp only [Bool.and_eq_true, beq_iff_eq] at hB; obtain rfl := hB; exact (q_move (v := S _) rfl)) ?_
  refine OpsW.g rfl rfl rfl (fun hB => by simp only [Bool.and_eq_true, beq_iff_eq] at hB; obtain rfl := hB; exact (q_move (v := S _) rfl)) ?_
  refine OpsW.g rfl rfl rfl (fun hB => by simp only [Bool.and_eq_true, beq_iff_eq] at hB; obtain rfl := hB; exact (q_neS rfl rfl)) ?_
  refine OpsW.q rfl (q_or2 rfl rfl rfl) ?_
  refine OpsW.qb rfl (q_move (v := .bool _) rfl) ?_
  intro b210 eb210
  refine OpsW.g rfl rfl rfl (fun hB => by simp only [Bool.and_eq_true, beq_iff_eq] at hB; obtain rfl := hB; exact (q_move (v := .int _ _) rfl)) ?_
  refine OpsW.g rfl rfl rfl (fun hB => by simp only [Bool.and_eq_true, beq_iff_eq] at hB; obtain rfl := hB; exact (q_move (v := .int _ _) rfl)) ?_
  refine OpsW.g rfl rfl rfl (fun hB => by simp only [Bool.and_eq_true, beq_iff_eq] at hB; obtain rfl := hB; exact (q_neq rfl rfl)) ?_
  refine OpsW.q rfl (q_or2 rfl rfl rfl) ?_
  refine OpsW.nil ?_
  refine SeqP.go ?_
  refine AW.cond rfl (fun h8 => ?_) (fun h8 => ?_)
  ·
   exfalso
   try simp only [eb70, eb77, eb86, eb95, eb109, eb113, eb123, eb169, eb205, eb210, z1, z2, z3, z4, z5, z6, z7, z8, z9, z10, z11, z12, z13, z14] at h8
   simp_all
  try simp only [eb70, eb77, eb86, eb95, eb109, eb113, eb123, eb169, eb205, eb210, z1, z2, z3, z4, z5, z6, z7, z8, z9, z10, z11, z12, z13, z14] at h8
  refine AW.skip ?_
  refine SeqP.go ?_
  refine AW.seq ?_
  refine AW.drawK [] 14 rfl (by kernel_rfl) ?_
  refine SeqK.q rfl (q_move (v := .pointer _) rfl) ?_
  refine SeqK.q rfl (o_call rfl Tryz.func11 rfl rfl (Count_con (hS15.blk at5))) ?_
  refine SeqK.q rfl (q_move (v := .pointer _) rfl) ?_
  refine SeqK.q rfl (q_nilCheck rfl) ?_
  refine SeqK.q rfl (q_fieldAddr (sz := 0) Tryz.underlying40 rfl (by kernel_rfl) rfl) ?_
  refine SeqK.q rfl (q_load (v := .int _ _) (by kernel_rfl) rfl (hS15.blk at3) rfl) ?_
  refine SeqK.q rfl (q_neq rfl rfl) ?_
  refine SeqK.qb rfl (q_move (v := .bool _) rfl) ?_
  intro b222 eb222
  refine SeqK.g rfl rfl rfl (fun hB => by simp only [Bool.and_eq_true, beq_iff_eq] at hB; obtain rfl := hB; exact (q_move (v := .pointer _) rfl)) ?_
  refine SeqK.g rfl rfl rfl (fun hB => by simp only [Bool.and_eq_true, beq_iff_eq] at hB; obtain rfl := hB; exact (o_call rfl Tryz.func11 rfl rfl (Count_con (hS15.blk at4)))) ?_
  refine SeqK.g rfl rfl rfl (fun hB => by simp only [Bool.and_eq_true, beq_iff_eq] at hB; obtain rfl := hB; exact (q_move (v := .pointer _) rfl)) ?_
  refine SeqK.g rfl rfl rfl (fun hB => by simp only [Bool.and_eq_true, beq_iff_eq] at hB; obtain rfl := hB; exact (q_nilCheck rfl)) ?_
  refine SeqK.g rfl rfl rfl (fun hB => by simp only [Bool.and_eq_true, beq_iff_eq] at hB; obtain rfl := hB; exact (q_fieldAddr (sz := 0) Tryz.underlying40 rfl (by kernel_rfl) rfl)) ?_
  refine SeqK.g rfl rfl rfl (fun hB => by simp only [Bool.and_eq_true, beq_iff_eq] at hB; obtain rfl := hB; exact (q_load (v := .int _ _) (by kernel_rfl) rfl (hS15.blk at2) rfl)) ?_
  refine SeqK.done ?_
  refine OpsW.g rfl rfl rfl (fun hB => by simp only [Bool.and_eq_true, beq_iff_eq] at hB; obtain rfl := hB; exact (q_neq rfl rfl)) ?_
  refine OpsW.q rfl (q_or2 rfl rfl rfl) ?_
  refine OpsW.nil ?_
  refine SeqP.go ?_
  refine AW.cond rfl (fun h9 => ?_) (fun h9 => ?_)
  ·
   exfalso
   try simp only [eb70, eb77, eb86, eb95, eb109, eb113, eb123, eb169, eb205, eb210, eb222, z1, z2, z3, z4, z5, z6, z7, z8, z9, z10, z11, z12, z13, z14] at h9
   simp_all
  try simp only [eb70, eb77, eb86, eb95, eb109, eb113, eb123, eb169, eb205, eb210, eb222, z1, z2, z3, z4, z5, z6, z7, z8, z9, z10, z11, z12, z13, z14] at h9
  refine AW.skip ?_
  refine BlockP.go ?_
  refine SeqP.go ?_
  refine AW.region ?_
  refine OpsW.q rfl (q_move (v := .int _ _) rfl) ?_
  refine OpsW.q rfl (q_addI rfl rfl (by omega)) ?_
  refine OpsW.q rfl (q_assign (v := .int _ _) rfl) ?_
  refine OpsW.nil ?_
  replace hS15 := hS15.del del0
  exact LoopP.go _ (by omega) ⟨i + 1, x1, bxNext x2 (o i).dat, sl, vo, _, rfl, ⟨by first | exact hI1 | exact bxAfter_ok hI1, by first | exact hI2 | exact bxNext_ok hI2, by first | omega | (simp; omega), by omega⟩, Slots.eq ⟨(by rfl), (by rfl), (by rfl), (by rfl), (by rfl), (by rfl), (by rfl),  trivial⟩, (by first | exact hS15 | (rw [List.length_append, strs_append]; exact hS15))⟩
 ·
  refine AW.region ?_
  refine OpsW.q rfl (q_fieldAddr (sz := 0) Tryz.underlying23 rfl (by kernel_rfl) rfl) ?_
  refine OpsW.q rfl (q_load (v := .int _ _) (by kernel_rfl) rfl (hS1.blk at0) rfl) ?_
  refine OpsW.q rfl (q_fieldAddr (sz := 0) Tryz.underlying23 rfl (by kernel_rfl) rfl) ?_
  refine OpsW.q rfl (q_load (v := S _) (by kernel_rfl) rfl (hS1.blk at0) rfl) ?_
  refine OpsW.q rfl (q_fieldAddr (sz := 0) Tryz.underlying23 rfl (by kernel_rfl) rfl) ?_
  refine OpsW.q rfl (q_load (v := S _) (by kernel_rfl) rfl (hS1.blk at0) rfl) ?_
  refine OpsW.q rfl (o_call rfl Tryz.func6 rfl rfl (NewBox_bad hz)) ?_
  refine OpsW.q rfl (q_move (v := .tuple _) rfl) ?_
  refine OpsW.q rfl (q_extract (v := .pointer _) rfl rfl) ?_
  refine OpsW.q rfl (q_extract (v := .int _ _) rfl rfl) ?_
  refine OpsW.q rfl (q_assign (v := .pointer _) rfl) ?_
  refine OpsW.q rfl (q_assign (v := .int _ _) rfl) ?_
  refine OpsW.nil ?_
  refine SeqP.go ?_
  refine AW.seq ?_
  refine AW.region ?_
  refine OpsW.q rfl (q_fieldAddr (sz := 0) Tryz.underlying23 rfl (by kernel_rfl) rfl) ?_
  refine OpsW.q rfl (q_load (v := .int _ _) (by kernel_rfl) rfl (hS1.blk at0) rfl) ?_
  refine OpsW.q rfl (q_fieldAddr (sz := 0) Tryz.underlying23 rfl (by kernel_rfl) rfl) ?_
  refine OpsW.q rfl (q_load (v := S _) (by kernel_rfl) rfl (hS1.blk at0) rfl) ?_
  refine OpsW.q rfl (q_fieldAddr (sz := 0) Tryz.underlying23 rfl (by kernel_rfl) rfl) ?_
  refine OpsW.q rfl (q_load (v := S _) (by kernel_rfl) rfl (hS1.blk at0) rfl) ?_
  refine OpsW.q rfl (o_call rfl Tryz.func6 rfl rfl (NewBox_bad hz)) ?_
  refine OpsW.q rfl (q_move (v := .tuple _) rfl) ?_
  refine OpsW.q rfl (q_extract (v := .pointer _) rfl rfl) ?_
  refine OpsW.q rfl (q_extract (v := .int _ _) rfl rfl) ?_
  refine OpsW.q rfl (q_assign (v := .pointer _) rfl) ?_
  refine OpsW.q rfl (q_assign (v := .int _ _) rfl) ?_
  refine OpsW.nil ?_
  refine SeqP.go ?_
  refine AW.seq ?_
  refine AW.region ?_
  refine OpsW.q rfl (q_fieldAddr (sz := 0) Tryz.underlying23 rfl (by kernel_rfl) rfl) ?_
  refine OpsW.q rfl (q_load (v := .int _ _) (by kernel_rfl) rfl (hS1.blk at0) rfl) ?_
  refine OpsW.q rfl (q_fieldAddr (sz := 0) Tryz.underlying23 rfl (by kernel_rfl) rfl) ?_
  refine OpsW.q rfl (q_load (v := S _) (by kernel_rfl) rfl (hS1.blk at0) rfl) ?_
  refine OpsW.q rfl (q_fieldAddr (sz := 0) Tryz.underlying23 rfl (by kernel_rfl) rfl) ?_
  refine OpsW.q rfl (q_load (v := S _) (by kernel_rfl) rfl (hS1.blk at0) rfl) ?_
  refine OpsW.q rfl (o_call rfl Tryz.func7 rfl rfl (NewBoxR_bad hz)) ?_
  refine OpsW.q rfl (q_move (v := .tuple _) rfl) ?_
  refine OpsW.q rfl (q_extract (v := .pointer _) rfl rfl) ?_
  refine OpsW.q rfl (q_extract (v := .int _ _) rfl rfl) ?_
  refine OpsW.q rfl (q_assign (v := .pointer _) rfl) ?_
  refine OpsW.q rfl (q_assign (v := .int _ _) rfl) ?_
  refine OpsW.nil ?_
  refine SeqP.go ?_
  refine AW.seq ?_
  refine AW.region ?_
  refine OpsW.q rfl (q_fieldAddr (sz := 0) Tryz.underlying23 rfl (by kernel_rfl) rfl) ?_
  refine OpsW.q rfl (q_load (v := .int _ _) (by kernel_rfl) rfl (hS1.blk at0) rfl) ?_
  refine OpsW.q rfl (q_fieldAddr (sz := 0) Tryz.underlying23 rfl (by kernel_rfl) rfl) ?_
  refine OpsW.q rfl (q_load (v := S _) (by kernel_rfl) rfl (hS1.blk at0) rfl) ?_
  refine OpsW.q rfl (q_fieldAddr (sz := 0) Tryz.underlying23 rfl (by kernel_rfl) rfl) ?_
  refine OpsW.q rfl (q_load (v := S _) (by kernel_rfl) rfl (hS1.blk at0) rfl) ?_
  refine OpsW.q rfl (o_call rfl Tryz.func7 rfl rfl (NewBoxR_bad hz)) ?_
  refine OpsW.q rfl (q_move (v := .tuple _) rfl) ?_
  refine OpsW.q rfl (q_extract (v := .pointer _) rfl rfl) ?_
  refine OpsW.q rfl (q_extract (v := .int _ _) rfl rfl) ?_
  refine OpsW.q rfl (q_assign (v := .pointer _) rfl) ?_
  refine OpsW.q rfl (q_assign (v := .int _ _) rfl) ?_
  refine OpsW.nil ?_
  refine SeqP.go ?_
  refine AW.seq ?_
  refine AW.seq ?_
  refine AW.region ?_
  refine OpsW.q rfl (q_move (v := .int _ _) rfl) ?_
  refine OpsW.q rfl (q_move (v := .int _ _) rfl) ?_
  refine OpsW.q rfl (q_neq rfl rfl) ?_
  refine OpsW.qb rfl (q_move (v := .bool _) rfl) ?_
  intro b70 eb70
  refine OpsW.g rfl rfl rfl (fun hB => by simp only [Bool.and_eq_true, beq_iff_eq] at hB; obtain rfl := hB; exact (q_move (v := .pointer _) rfl)) ?_
  refine OpsW.g rfl rfl rfl (fun hB => by simp only [Bool.and_eq_true, beq_iff_eq] at hB; obtain rfl := hB; exact (q_eqlP Tryz.underlying25 rfl rfl)) ?_
  refine OpsW.g rfl rfl rfl (fun hB => by simp only [Bool.and_eq_true, beq_iff_eq] at hB; obtain rfl := hB; exact (q_move (v := .pointer _) rfl)) ?_
  refine OpsW.g rfl rfl rfl (fun hB => by simp only [Bool.and_eq_true, beq_iff_eq] at hB; obtain rfl := hB; exact (q_eqlP Tryz.underlying29 rfl rfl)) ?_
  refine OpsW.g rfl rfl rfl (fun hB => by simp only [Bool.and_eq_true, beq_iff_eq] at hB; obtain rfl := hB; exact (q_neqB Tryz.underlying4 rfl rfl)) ?_
  refine OpsW.q rfl (q_or2 rfl rfl rfl) ?_
  refine OpsW.qb rfl (q_move (v := .bool _) rfl) ?_
  intro b77 eb77
  refine OpsW.g rfl rfl rfl (fun hB => by simp only [Bool.and_eq_true, beq_iff_eq] at hB; obtain rfl := hB; exact (q_move (v := .pointer _) rfl)) ?_
  refine OpsW.g rfl rfl rfl (fun hB => by simp only [Bool.and_eq_true, beq_iff_eq] at hB; obtain rfl := hB; exact (q_eqlP Tryz.underlying25 rfl rfl)) ?_
  refine OpsW.g rfl rfl rfl (fun hB => by simp only [Bool.and_eq_true, beq_iff_eq] at hB; obtain rfl := hB; exact (q_move (v := .pointer _) rfl)) ?_
  refine OpsW.g rfl rfl rfl (fun hB => by simp only [Bool.and_eq_true, beq_iff_eq] at hB; obtain rfl := hB; exact (q_eqlP Tryz.underlying29 rfl rfl)) ?_
  refine OpsW.g rfl rfl rfl (fun hB => by simp only [Bool.and_eq_true, beq_iff_eq] at hB; obtain rfl := hB; exact (q_neqB Tryz.underlying4 rfl rfl)) ?_
  refine OpsW.q rfl (q_or2 rfl rfl rfl) ?_
  refine OpsW.nil ?_
  refine SeqP.go ?_
  refine AW.cond rfl (fun h0 => ?_) (fun h0 => ?_)
  ·
   exfalso
   try simp only [eb70, eb77, z1, z2, z3, z4, z5, z6, z7, z8, z9, z10, z11, z12, z13, z14] at h0
   simp_all
  try simp only [eb70, eb77, z1, z2, z3, z4, z5, z6, z7, z8, z9, z10, z11, z12, z13, z14] at h0
  refine AW.skip ?_
  refine SeqP.go ?_
  refine AW.seq ?_
  refine AW.seq ?_
  refine AW.region ?_
  refine OpsW.q rfl (q_move (v := .pointer _) rfl) ?_
  refine OpsW.q rfl (q_eqlP Tryz.underlying29 rfl rfl) ?_
  refine OpsW.qb rfl (q_move (v := .bool _) rfl) ?_
  intro b86 eb86
  refine OpsW.g rfl rfl rfl (fun hB => by simp only [Bool.and_eq_true, beq_iff_eq] at hB; obtain rfl := hB; exact (q_move (v := .pointer _) rfl)) ?_
  refine OpsW.g rfl rfl rfl (fun hB => by simp only [Bool.and_eq_true, beq_iff_eq] at hB; obtain rfl := hB; exact (q_eqlP Tryz.underlying29 rfl rfl)) ?_
  refine OpsW.q rfl (q_or2 rfl rfl rfl) ?_
  refine OpsW.nil ?_
  refine SeqP.go ?_
  refine AW.cond rfl (fun h1 => ?_) (fun h1 => ?_)
  ·
   try simp only [eb70, eb77, eb86, z1, z2, z3, z4, z5, z6, z7, z8, z9, z10, z11, z12, z13, z14] at h1
   refine AW.seq ?_
   refine AW.region ?_
   refine OpsW.q rfl (o_call rfl Tryz.func5 rfl rfl (awake_con)) ?_
   refine OpsW.q rfl (q_assign (v := .bool _) rfl) ?_
   refine OpsW.nil ?_
   refine SeqP.go ?_
   refine AW.ret ?_
   refine SeqP.ret ?_
   refine RetP.mk1 (H' := H) (v1 := .bool _) rfl rfl  hS1.le ?_
   refine ⟨?_, rfl⟩
   simp_all
  exfalso
  try simp only [eb70, eb77, eb86, z1, z2, z3, z4, z5, z6, z7, z8, z9, z10, z11, z12, z13, z14] at h1
  simp_all
end
end Go.Proofs.YtfpoldogcopmpaaGreatDoor
end
section
namespace Go.Proofs.YtfpoldogcopmpaaGreatDoor
open Go Go.RowKit Go.ChangeShapes Go.WideShapes Go.ChangeAt D
set_option linter.unusedVariables false
set_option maxRecDepth 100000
theorem own : ownKnob Tryz.prog.godebug = none := by kernel_rfl
theorem laidOut : laidOutB Tryz.prog = true := by kernel_rfl
theorem len6 {α : Type} {l : List α} (h : l.length = 6) : ∃ a b c d e f, l = [a, b, c, d, e, f] := by
 match l, h with
 | [a, b, c, d, e, f], _ => exact ⟨a, b, c, d, e, f, rfl⟩
theorem recordRaw_lifted (os : Os) (started : os.Started) (H : Type) (enc : TypeId × Value → H) :
  ReturnsInHanded {} Tryz.checked os 3 .any (fun w args => (Rows.recordRawSpec.pre enc Tryz.prog Tryz.f3 Rows.recordRawRow.domain false w args ∧ laidMetH Tryz.prog Rows.recordRawRow.laid w) ∧ sizedMet enc Tryz.prog Tryz.f3 (OpenSpec.ofChange Rows.recordRawSpec) false w args) (Rows.recordRawSpec.post enc Tryz.prog Tryz.f3 false true false false) := by
 refine liftedL (C := Tryz.checked) (laid := Rows.recordRawRow.laid) own started (by kernel_rfl) Tryz.func3
  (ChangeSpec.witness_shaped (enc := enc) (C := Tryz.checked) (os := os) (X := fun w _ => laidMetH Tryz.prog Rows.recordRawRow.laid w) false (World.laidAll Tryz.prog os Rows.recordRawRow.laid) #[.agg #[.int .i64 0, .string ⟨#[]⟩, .string ⟨#[]⟩], .string ⟨#[]⟩] 8 (World.laidAll_os _ _ _)
   (World.shaped_of_ZipB (by kernel_rfl) (by kernel_rfl)) (by kernel_rfl) (by kernel_rfl) (by kernel_rfl)
   (by rw [MakeChecks.laidMetH_plain _ _ _ (by kernel_rfl)]; exact laidMet_laidAll _ (by kernel_rfl) (by kernel_rfl))) laidOut (by kernel_rfl) rfl (by kernel_rfl) Tryz.underlying4 ?_ ?_
 ·intro ds h
  obtain ⟨d0, d1, rfl⟩ := len2 h
  exact ⟨rfl, rfl, rfl⟩
 ·intro W base args ds gs before hval0 hW _ hL
  have hval : ∀ (j : Nat) t v, Tryz.f3.params[j]? = some t → args[j]? = some v → Value.okWide Tryz.prog W .any base t v := hval0
  obtain ⟨p_, q_, hA0, hV, rfl, _, _⟩ := hW
  have hA : DataW.TrodAll enc Tryz.prog W 0 (fun _ => true) true Tryz.f3.params.toList args.toList ds p_ := hA0
  rw [Tryz.params3] at hA hval
  obtain ⟨v0, v1, d0, d1, p0_, p1_, rfl, rfl, rfl, h0, h1⟩ := trodAll_two hA
  obtain ⟨csx, rfl, hTx⟩ := open_structT Tryz.underlying23 (hval 0 _ v0 rfl rfl) h0
  have hUx := Tryz.underlying23
  have hlx := (hTx.struct hUx).1
  rw [show Tryz.prog.cellsOf 23 = 3 by kernel_rfl] at hlx
  obtain ⟨x0x, x1x, x2x, rfl⟩ := len3 hlx
  obtain ⟨xs, k0x, _⟩ := (hTx.part hUx 0 0 1 3 rfl (by kernel_rfl)).i64 Tryz.underlying3
  obtain ⟨xk, k1x, _⟩ := (hTx.part hUx 1 1 1 9 rfl (by kernel_rfl)).str Tryz.underlying9
  obtain ⟨xi, k2x, _⟩ := (hTx.part hUx 2 2 1 9 rfl (by kernel_rfl)).str Tryz.underlying9
  simp at k0x k1x k2x
  subst k0x k1x k2x
  obtain ⟨s, rfl, hl_s, rfl⟩ := open_str Tryz.underlying9 (hval 1 _ v1 rfl rfl) h1
  exact (raw_con xs xk xi s).mono fun v H' h => h.1
theorem recordRaw_holds : Rows.RecordRawSaid :=
 OpenClaim.holds_of_wide 3 Tryz.f3 rfl rfl rfl rfl rfl rfl rfl ⟨rfl, rfl, rfl, rfl, rfl⟩ rfl rfl rfl rfl rfl (by kernel_rfl) Tryz.func3 (by kernel_rfl)
  (of_decide_eq_true (by kernel_rfl)) (by unfold Func.isWrapper; first | (rw [if_pos (by decide +kernel)]; kernel_rfl) | (rw [if_neg (by decide +kernel)]; exact ⟨rfl, rfl⟩))
  (fun os started H enc _ => recordRaw_lifted os started H enc)
theorem recordRaw_card : Rows.RecordRawCardSaid :=
 Claim7.holds_tied_plain_at .later [] _ _ _ _ recordRaw_holds (fun _ h => by cases h) (by kernel_rfl) (fun _ h => by cases h) recordRaw_row_tie rfl ⟨rfl, rfl⟩ (by kernel_rfl) rfl
  (fun f fn hf hfn => by
   obtain rfl : f = 3 := Option.some.inj ((show Tryz.prog.funcNamed "cresset/cressetlaw15.RecordRaw" = some 3 by kernel_rfl).symm.trans hf) |>.symm
   obtain rfl : fn = Tryz.f3 := (Option.some.inj (Tryz.func3.symm.trans hfn)).symm
   exact ⟨by kernel_rfl, fun j t ht => by
    have hall : (Tryz.f3.params.toList.all fun u => !Tryz.prog.wantsStandIn u) = true := by kernel_rfl
    have hm : t ∈ Tryz.f3.params.toList := Array.mem_toList_iff.2 (Array.mem_of_getElem? ht)
    exact (show Tryz.prog.wantsStandIn t = false by simpa using List.all_eq_true.1 hall t hm)⟩)
  (by kernel_rfl)
theorem recordSeals_lifted (os : Os) (started : os.Started) (H : Type) (enc : TypeId × Value → H) :
  ReturnsInHanded {} Tryz.checked os 4 .any (fun w args => (Rows.recordSealsSpec.pre enc Tryz.prog Tryz.f4 Rows.recordSealsRow.domain false w args ∧ laidMetH Tryz.prog Rows.recordSealsRow.laid w) ∧ sizedMet enc Tryz.prog Tryz.f4 (OpenSpec.ofChange Rows.recordSealsSpec) false w args) (Rows.recordSealsSpec.post enc Tryz.prog Tryz.f4 false true false false) := by
 refine liftedL (C := Tryz.checked) (laid := Rows.recordSealsRow.laid) own started (by kernel_rfl) Tryz.func4
  (ChangeSpec.witness_shaped (enc := enc) (C := Tryz.checked) (os := os) (X := fun w _ => laidMetH Tryz.prog Rows.recordSealsRow.laid w) false (World.laidAll Tryz.prog os Rows.recordSealsRow.laid) #[.agg #[.int .i64 0, .string ⟨#[]⟩, .string ⟨#[]⟩], .slice none 0 0] 8 (World.laidAll_os _ _ _)
   (World.shaped_of_ZipB (by kernel_rfl) (by kernel_rfl)) (by kernel_rfl) (by kernel_rfl) (by kernel_rfl)
   (by rw [MakeChecks.laidMetH_plain _ _ _ (by kernel_rfl)]; exact laidMet_laidAll _ (by kernel_rfl) (by kernel_rfl))) laidOut (by kernel_rfl) rfl (by kernel_rfl) Tryz.underlying4 ?_ ?_
 ·intro ds h
  obtain ⟨d0, d1, rfl⟩ := len2 h
  exact ⟨rfl, rfl, rfl⟩
 ·intro W base args ds gs before hval0 hW _ hL
  have hval : ∀ (j : Nat) t v, Tryz.f4.params[j]? = some t → args[j]? = some v → Value.okWide Tryz.prog W .any base t v := hval0
  obtain ⟨p_, q_, hA0, hV, rfl, _, _⟩ := hW
  have hA : DataW.TrodAll enc Tryz.prog W 0 (fun _ => true) true Tryz.f4.params.toList args.toList ds p_ := hA0
  rw [Tryz.params4] at hA hval
  obtain ⟨v0, v1, d0, d1, p0_, p1_, rfl, rfl, rfl, h0, h1⟩ := trodAll_two hA
  obtain ⟨csx, rfl, hTx⟩ := open_structT Tryz.underlying23 (hval 0 _ v0 rfl rfl) h0
  have hUx := Tryz.underlying23
  have hlx := (hTx.struct hUx).1
  rw [show Tryz.prog.cellsOf 23 = 3 by kernel_rfl] at hlx
  obtain ⟨x0x, x1x, x2x, rfl⟩ := len3 hlx
  obtain ⟨xs, k0x, _⟩ := (hTx.part hUx 0 0 1 3 rfl (by kernel_rfl)).i64 Tryz.underlying3
  obtain ⟨xk, k1x, _⟩ := (hTx.part hUx 1 1 1 9 rfl (by kernel_rfl)).str Tryz.underlying9
  obtain ⟨xi, k2x, _⟩ := (hTx.part hUx 2 2 1 9 rfl (by kernel_rfl)).str Tryz.underlying9
  simp at k0x k1x k2x
  subst k0x k1x k2x
  obtain ⟨ry, my, cy, gy, rfl, hmy, hry, hty⟩ := open_sliceT Tryz.underlying42 (hval 1 _ v1 rfl rfl) h1
  have hops : ∀ j, j < my → ∃ x : OpR, gy j = oprCells x ∧ (-9223372036854775808 ≤ x.pad ∧ x.pad ≤ 9223372036854775807) := fun j hj => by
   have hU := Tryz.underlying45
   have hl := ((hty j hj).struct hU).1
   rw [show Tryz.prog.cellsOf 45 = 6 by kernel_rfl] at hl
   obtain ⟨x0, x1, x2, x3, x4, x5, hx⟩ := len6 hl
   have hT := hty j hj
   rw [hx] at hT ⊢
   obtain ⟨a0, h0⟩ := (hT.part hU 0 0 1 4 rfl (by kernel_rfl)).bool Tryz.underlying4
   obtain ⟨a1, h1⟩ := (hT.part hU 1 1 1 4 rfl (by kernel_rfl)).bool Tryz.underlying4
   obtain ⟨a2, h2, _, _⟩ := (hT.part hU 2 2 1 3 rfl (by kernel_rfl)).i64 Tryz.underlying3
   obtain ⟨a3, h3, _⟩ := (hT.part hU 3 3 1 9 rfl (by kernel_rfl)).str Tryz.underlying9
   obtain ⟨a4, h4, lo4, hi4⟩ := (hT.part hU 4 4 1 3 rfl (by kernel_rfl)).i64 Tryz.underlying3
   obtain ⟨a5, h5, _, _⟩ := (hT.part hU 5 5 1 3 rfl (by kernel_rfl)).i64 Tryz.underlying3
   simp at h0 h1 h2 h3 h4 h5
   exact ⟨⟨a0, a1, a2, a3, a4, a5⟩, by rw [h0, h1, h2, h3, h4, h5]; rfl, lo4, hi4⟩
  obtain ⟨oy, hRy, hOy⟩ := rows_of oprCells _ (by rw [show Tryz.prog.cellsOf 45 = 6 by kernel_rfl] at hry; exact hry) ⟨false, false, 0, [], 0, 0⟩ hops
  exact (seals_con xs xk xi oy hRy hmy hOy).mono fun v H' h => h.1
theorem recordSeals_holds : Rows.RecordSealsSaid :=
 OpenClaim.holds_of_wide 4 Tryz.f4 rfl rfl rfl rfl rfl rfl rfl ⟨rfl, rfl, rfl, rfl, rfl⟩ rfl rfl rfl rfl rfl (by kernel_rfl) Tryz.func4 (by kernel_rfl)
  (of_decide_eq_true (by kernel_rfl)) (by unfold Func.isWrapper; first | (rw [if_pos (by decide +kernel)]; kernel_rfl) | (rw [if_neg (by decide +kernel)]; exact ⟨rfl, rfl⟩))
  (fun os started H enc _ => recordSeals_lifted os started H enc)
theorem recordSeals_card : Rows.RecordSealsCardSaid :=
 Claim7.holds_tied_plain_at .later [] _ _ _ _ recordSeals_holds (fun _ h => by cases h) (by kernel_rfl) (fun _ h => by cases h) recordSeals_row_tie rfl ⟨rfl, rfl⟩ (by kernel_rfl) rfl
  (fun f fn hf hfn => by
   obtain rfl : f = 4 := Option.some.inj ((show Tryz.prog.funcNamed "cresset/cressetlaw15.RecordSeals" = some 4 by kernel_rfl).symm.trans hf) |>.symm
   obtain rfl : fn = Tryz.f4 := (Option.some.inj (Tryz.func4.symm.trans hfn)).symm
   exact ⟨by kernel_rfl, fun j t ht => by
    have hall : (Tryz.f4.params.toList.all fun u => !Tryz.prog.wantsStandIn u) = true := by kernel_rfl
    have hm : t ∈ Tryz.f4.params.toList := Array.mem_toList_iff.2 (Array.mem_of_getElem? ht)
    exact (show Tryz.prog.wantsStandIn t = false by simpa using List.all_eq_true.1 hall t hm)⟩)
  (by kernel_rfl)
end Go.Proofs.YtfpoldogcopmpaaGreatDoor
end
