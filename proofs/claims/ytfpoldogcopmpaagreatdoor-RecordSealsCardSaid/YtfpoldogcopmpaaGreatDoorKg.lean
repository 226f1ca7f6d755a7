/-
 The proof's texts, joined, without what the statements do not reach: part 7 of 9. No condition.
-/
import Derived.Test.YtfpoldogcopmpaaGreatDoorCards
import Derived.Test.YtfpoldogcopmpaaGreatDoorTie
import Derived.WalkKit
import Derived.KernelRfl
import Derived.Lib.ConvBytes
import Derived.WalkSpells
import Derived.WalkLawsBesides
import Derived.ProofKit
import Derived.ChangeMaps5
import Derived.ChangeSlices
import Derived.Deep.Strs
import Derived.Handed
import Derived.LaidLaws
import Derived.LaidMore
import Derived.Lay
import Derived.SevenTiedAt
import Derived.Stop.Joined
import Derived.DataElems
import Derived.OpenShut
import Derived.Test.YtfpoldogcopmpaaGreatDoorProg
import Derived.Lib.TrimByte
import Derived.Shelf.Bits.Mul64
import Derived.Shelf.Small.Strs
import Derived.Shelf.Small.Utf8
import Derived.Shelf.Strings.AsciiSet
import Derived.Shelf.Strings.Builder1
import Derived.Shelf.Strings.Builder2
import Derived.Shelf.Strings.Builder2Cap
import Derived.Shelf.Strings.BuilderF
import Derived.Shelf.Strings.Prefix
import Derived.Shelf.Strings.Repeat
import Derived.Shelf.Strings.Runes
import Derived.Shelf.Strings.Search1
import Derived.Shelf.Strings.Trim
import Derived.Shelf.Unicode.Decode
import Derived.Shelf.Unicode.DecodeAny
import Derived.Shelf.Unicode.DecodeLast
import Derived.Shelf.Unicode.DecodeSlow
import Derived.Test.YtfpoldogcopmpaaGreatDoorKf
section
namespace Go.Proofs.YtfpoldogcopmpaaGreatDoor.Po
open Go Go.RowKit D
set_option linter.unusedVariables false
set_option linter.unusedSimpArgs false
set_option maxRecDepth 100000
set_option maxHeartbeats 2000000
section
variable {w0 : World} {H : Hp} {H0 : Hp}
theorem tag_con (key data : List UInt8) (hd : data.length ≤ 1099511627776) : Con Tryz.prog w0 76 #[S key, S data] H (fun v H' => v = .tuple #[S (tagP key data).1, .int .i64 (tagP key data).2] ∧ H' = H) := by
 have hS0 : Sep H [] H := Sep.refl
 refine Con.intro Tryz.func76 rfl rfl ?_
 refine AW.seq ?_
 refine AW.region ?_
 refine OpsW.q rfl (q_assign (v := S _) rfl) ?_
 refine OpsW.q rfl (q_assign (v := .int _ _) rfl) ?_
 refine OpsW.nil ?_
 refine SeqP.go ?_
 refine AW.seq ?_
 refine AW.seq ?_
 refine AW.region ?_
 refine OpsW.q rfl (q_move (v := S _) rfl) ?_
 refine OpsW.q rfl (q_lenS Tryz.underlying9 rfl) ?_
 refine OpsW.q rfl (q_neq rfl rfl) ?_
 refine OpsW.nil ?_
 refine SeqP.go ?_
 refine AW.cond rfl (fun h0 => ?_) (fun h0 => ?_)
 ·
  try simp only [z1, z2, z3, z4, z5, z6, z7, z8, z9, z10, z11, z12, z13, z14] at h0
  refine AW.seq ?_
  refine AW.region ?_
  refine OpsW.q rfl (q_assign (v := S _) rfl) ?_
  refine OpsW.q rfl (q_assign (v := .int _ _) rfl) ?_
  refine OpsW.nil ?_
  refine SeqP.go ?_
  refine AW.ret ?_
  refine SeqP.ret ?_
  refine RetP.mk2 (H' := H) (v1 := S _) (v2 := .int _ _) rfl rfl rfl  hS0.le ?_
  exact ⟨by rw [tagP_bad (by omega)], rfl⟩
 try simp only [z1, z2, z3, z4, z5, z6, z7, z8, z9, z10, z11, z12, z13, z14] at h0
 have hk : key.length = 32 := by omega
 have hrl := (rL_spec hk).1
 refine AW.skip ?_
 refine SeqP.go ?_
 refine AW.seq ?_
 refine AW.region ?_
 refine OpsW.q rfl (q_move (v := S _) rfl) ?_
 refine OpsW.q rfl (o_call rfl Tryz.func102 rfl rfl (clamped_con hk)) ?_
 rw [show ofL (clK (ofB (key.take 16) ++ [0]) 4) = rL key from by unfold rL; rfl]
 refine OpsW.m rfl (s_allocN (k := .u64) (m := 5) hS0 (by kernel_rfl)) ?_
 rintro _ H1 ⟨b6, rfl, hS1⟩
 clear hS0
 refine OpsW.ms (s_storeA (n := 5) (k := .u64) hS1 at0 (by kernel_rfl) rfl rfl (by with_reducible assumption) (by rfl)) ?_
 rintro _ H2 ⟨rfl, hS2⟩
 clear hS1
 refine OpsW.nil ?_
 refine SeqP.go ?_
 refine AW.seq ?_
 refine AW.region ?_
 refine OpsW.m rfl (s_allocN (k := .u64) (m := 5) hS2 (by kernel_rfl)) ?_
 rintro _ H3 ⟨b7, rfl, hS3⟩
 clear hS2
 refine OpsW.nil ?_
 refine SeqP.go ?_
 refine AW.seq ?_
 refine AW.block ?_
 refine AW.loop (fun m_ e_ H_ => ∃ (j : Nat) (e0 : Env), m_ = data.length + 16 - 16 * j ∧ (16 * j < data.length + 16) ∧ e_ = upds e0 [(0, S key), (1, S (data.drop (16 * j))), (6, .pointer (some ⟨b6, 0, none⟩)), (7, .pointer (some ⟨b7, 0, none⟩))] ∧ Sep H [.blk b7 ⟨nums .u64 ((aP key data j)), 5, 139⟩, .blk b6 ⟨nums .u64 ((rL key)), 5, 139⟩] H_) _ ⟨0, _, rfl, (by omega), Slots.eq ⟨(by rfl), (by rfl), (by rfl), (by rfl),  trivial⟩, (by rw [aP_zero]; exact hS3)⟩ ?_
 rintro m_ _ Hl0 ⟨j, e0, rfl, hf, rfl, hSl0⟩
 try clear hS3
 have hal : (aP key data j).length = 5 := aP_length hk j
 have hdl : (data.drop (16 * j)).length = data.length - 16 * j := List.length_drop
 refine AW.seq ?_
 refine AW.seq ?_
 refine AW.region ?_
 refine OpsW.q rfl (q_move (v := S _) rfl) ?_
 refine OpsW.q rfl (q_lenS Tryz.underlying9 rfl) ?_
 refine OpsW.q rfl (q_gtr rfl rfl) ?_
 refine OpsW.nil ?_
 refine SeqP.go ?_
 refine AW.cond2 rfl (fun h1 => ?_) (fun h1 => ?_)
 ·
  try simp only [z1, z2, z3, z4, z5, z6, z7, z8, z9, z10, z11, z12, z13, z14] at h1
  refine AW.exit ?_
  refine SeqP.exit ?_
  refine LoopP.exit ?_
  obtain rfl : j = (data.length + 15) / 16 := by omega
  refine BlockP.here ?_
  refine SeqP.go ?_
  refine AW.seq ?_
  refine AW.region ?_
  obtain ⟨Hf4, le4, hA4, hB4⟩ := hSl0.framed at0
  refine OpsW.m rfl (o_call rfl Tryz.func106 rfl rfl (rest_con hA4 hal)) ?_
  rintro _ H4 ⟨rfl, hR4⟩
  have hS4 := hB4 _ _ hR4
  clear hR4 hB4 hA4
  clear hSl0
  rw [aP_fin hk] at hS4
  have hg5 := grps_length 26 5 130 (accT key data)
  refine OpsW.nil ?_
  refine SeqP.go ?_
  refine AW.seq ?_
  refine AW.region ?_
  refine OpsW.q rfl (q_loadAN (n := 5) (k := .u64) (by kernel_rfl) rfl (hS4.blk at0) (by with_reducible assumption)) ?_
  refine OpsW.q rfl (o_call rfl Tryz.func107 rfl rfl (bytes_con)) ?_
  have hg16 := grps_length 8 16 128 (accT key data)
  refine OpsW.m rfl (s_allocN (k := .u8) (m := 16) hS4 (by kernel_rfl)) ?_
  rintro _ H5 ⟨b10, rfl, hS5⟩
  clear hS4
  refine OpsW.ms (s_storeA (n := 16) (k := .u8) hS5 at0 (by kernel_rfl) rfl rfl (by with_reducible assumption) (by rfl)) ?_
  rintro _ H6 ⟨rfl, hS6⟩
  clear hS5
  refine OpsW.nil ?_
  refine SeqP.go ?_
  refine AW.seq ?_
  refine AW.region ?_
  refine OpsW.q rfl (q_assign (v := .int _ _) rfl) ?_
  refine OpsW.nil ?_
  refine SeqP.go ?_
  refine AW.seq ?_
  refine AW.seq ?_
  refine AW.region ?_
  refine OpsW.q rfl (q_move (v := .int _ _) rfl) ?_
  refine OpsW.nil ?_
  refine SeqP.go ?_
  refine AW.block ?_
  replace hS6 := hS6.del del1
  replace hS6 := hS6.del del1
  refine AW.loop (fun m_ e_ H_ => ∃ (i : Nat) (e0 : Env), m_ = 16 - i ∧ (i ≤ 16) ∧ e_ = upds e0 [(0, S key), (10, .pointer (some ⟨b10, 0, none⟩)), (11, .int .i64 ((cyK (accT key data) (numL (key.drop 16)) i : Nat) : Int)), (37, .int .i64 (i : Int))] ∧ Sep H [.blk b10 ⟨nums .u8 ((outK (accT key data) (numL (key.drop 16)) i)), 16, 144⟩] H_) _ ⟨0, _, rfl, (by omega), Slots.eq ⟨(by rfl), (by rfl), (by rw [cyK_zero]; rfl), (by rfl),  trivial⟩, (by rw [outK_zero]; exact hS6)⟩ ?_
  rintro m_ _ Hl1 ⟨i, e0, rfl, hf, rfl, hSl1⟩
  try clear hS6
  have hol := outK_length (accT key data) (numL (key.drop 16)) i
  have hcl := cyK_le (accT key data) (numL (key.drop 16)) i
  refine AW.seq ?_
  refine AW.region ?_
  refine OpsW.q rfl (q_lss rfl rfl) ?_
  refine OpsW.nil ?_
  refine SeqP.go ?_
  refine AW.seq ?_
  refine AW.cond2 rfl (fun h2 => ?_) (fun h2 => ?_)
  ·
   try simp only [z1, z2, z3, z4, z5, z6, z7, z8, z9, z10, z11, z12, z13, z14] at h2
   refine AW.exit ?_
   refine SeqP.exit ?_
   refine LoopP.exit ?_
   obtain rfl : i = 16 := by omega
   refine BlockP.here ?_
   refine SeqP.go ?_
   refine AW.seq ?_
   refine AW.region ?_
   refine OpsW.q rfl (q_sliceArr_all (sz := 1) Tryz.underlying144 (by kernel_rfl) rfl ) ?_
   refine OpsW.q rfl (q_string0 Tryz.underlying35 Tryz.underlying5 Tryz.underlying9 rfl (hSl1.blk at0) (by omega)) ?_
   refine OpsW.q rfl (q_assign (v := S _) rfl) ?_
   refine OpsW.q rfl (q_assign (v := .int _ _) rfl) ?_
   refine OpsW.nil ?_
   refine SeqP.go ?_
   refine AW.ret ?_
   refine RetP.mk2 (H' := H) (v1 := S _) (v2 := .int _ _) rfl rfl rfl  hSl1.le ?_
   refine ⟨?_, rfl⟩
   rw [tagP_ok hk, outK_full]
   rfl
  try simp only [z1, z2, z3, z4, z5, z6, z7, z8, z9, z10, z11, z12, z13, z14] at h2
  refine AW.skip ?_
  refine SeqP.go ?_
  refine AW.seq ?_
  refine AW.block ?_
  refine AW.seq ?_
  refine AW.region ?_
  refine OpsW.q rfl (q_move (v := .int _ _) rfl) ?_
  refine OpsW.q rfl (q_assign (v := .int _ _) rfl) ?_
  refine OpsW.nil ?_
  refine SeqP.go ?_
  refine AW.seq ?_
  refine AW.drawK [] 11 rfl (by kernel_rfl) ?_
  refine SeqK.q rfl (q_move (v := .int _ _) rfl) ?_
  refine SeqK.q rfl (q_move (v := .int _ _) rfl) ?_
  refine SeqK.q rfl (q_indexAddrA0 Tryz.underlying144 (by kernel_rfl) rfl rfl (by omega) (by omega)) ?_
  refine SeqK.q rfl (q_loadN (by kernel_rfl) rfl (hSl1.blk at0) (by omega)) ?_
  rw [show (outK (accT key data) (numL (key.drop 16)) i).getD (i : Int).toNat 0 = ((accT key data / 256 ^ i % 256 : Nat) : Int) from outK_at (by omega)]
  have hv1 : accT key data / 256 ^ i % 256 < 256 := Nat.mod_lt _ (by decide)
  refine SeqK.q rfl (q_convI64 rfl Tryz.underlying3 rfl (by omega)) ?_
  refine SeqK.q rfl (q_move (v := S _) rfl) ?_
  refine SeqK.q rfl (q_move (v := .int _ _) rfl) ?_
  refine SeqK.q rfl (q_addI rfl rfl (by omega)) ?_
  refine SeqK.q rfl (q_indexS Tryz.underlying9 rfl rfl (by omega) (by omega)) ?_
  rw [show bt key (16 + (i : Int)).toNat = ((numL (key.drop 16) / 256 ^ i % 256 : Nat) : Int) from by rw [← bt_num, bt_drop]; exact congrArg _ (by omega)]
  have hv2 : numL (key.drop 16) / 256 ^ i % 256 < 256 := Nat.mod_lt _ (by decide)
  refine SeqK.q rfl (q_convI64 rfl Tryz.underlying3 rfl (by omega)) ?_
  refine SeqK.q rfl (q_addI rfl rfl (by omega)) ?_
  refine SeqK.done ?_
  refine OpsW.q rfl (q_addI rfl rfl (by omega)) ?_
  rw [show ((cyK (accT key data) (numL (key.drop 16)) i : Nat) : Int) + (((accT key data / 256 ^ i % 256 : Nat) : Int) + ((numL (key.drop 16) / 256 ^ i % 256 : Nat) : Int)) = ((cyK (accT key data) (numL (key.drop 16)) i + accT key data / 256 ^ i % 256 + numL (key.drop 16) / 256 ^ i % 256 : Nat) : Int) from by omega]
  refine OpsW.q rfl (q_assign (v := .int _ _) rfl) ?_
  refine OpsW.nil ?_
  refine SeqP.go ?_
  refine AW.seq ?_
  refine AW.region ?_
  refine OpsW.q rfl (q_move (v := .int _ _) rfl) ?_
  refine OpsW.q rfl (q_move (v := .int _ _) rfl) ?_
  refine OpsW.q rfl (q_convInt rfl Tryz.underlying5 rfl) ?_
  rw [show IntKind.u8.wrap ((cyK (accT key data) (numL (key.drop 16)) i + accT key data / 256 ^ i % 256 + numL (key.drop 16) / 256 ^ i % 256 : Nat) : Int) = (((accT key data + numL (key.drop 16)) / 256 ^ i % 256 : Nat) : Int) from by rw [wrap_u8, ← cy_byte]; omega]
  refine OpsW.q rfl (q_indexAddrA0 Tryz.underlying144 (by kernel_rfl) rfl rfl (by omega) (by omega)) ?_
  refine OpsW.ms (s_storeN hSl1 at0 (by kernel_rfl) rfl rfl (by omega)) ?_
  rintro _ H7 ⟨rfl, hS7⟩
  clear hSl1
  refine OpsW.nil ?_
  refine SeqP.go ?_
  refine AW.region ?_
  refine OpsW.q rfl (q_move (v := .int _ _) rfl) ?_
  refine OpsW.q rfl (q_shrL 8 rfl rfl (by decide) rfl) ?_
  refine OpsW.q rfl (q_assign (v := .int _ _) rfl) ?_
  refine OpsW.nil ?_
  refine BlockP.go ?_
  refine SeqP.go ?_
  refine AW.region ?_
  refine OpsW.q rfl (q_addI rfl rfl (by omega)) ?_
  refine OpsW.q rfl (q_move (v := .int _ _) rfl) ?_
  refine OpsW.nil ?_
  exact LoopP.go _ (by omega) ⟨i + 1, _, rfl, (by omega), Slots.eq ⟨(by rfl), (by rfl), (by rw [cyK_succ]; show Value.int .i64 _ = Value.int .i64 _; congr 1), (by rfl),  trivial⟩, (by rw [← outK_set (by omega)]; exact hS7)⟩
 try simp only [z1, z2, z3, z4, z5, z6, z7, z8, z9, z10, z11, z12, z13, z14] at h1
 refine AW.skip ?_
 refine SeqP.go ?_
 refine AW.block ?_
 refine AW.seq ?_
 refine AW.region ?_
 refine OpsW.m rfl (s_allocN (k := .u8) (m := 17) hSl0 (by kernel_rfl)) ?_
 rintro _ H8 ⟨b8, rfl, hS8⟩
 clear hSl0
 refine OpsW.nil ?_
 refine SeqP.go ?_
 refine AW.seq ?_
 refine AW.region ?_
 refine OpsW.q rfl (q_sliceArr_hi (sz := 1) Tryz.underlying141 (by kernel_rfl) rfl rfl (by omega) (by omega)) ?_
 refine OpsW.q rfl (q_move (v := S _) rfl) ?_
 refine OpsW.m rfl (s_copyN hS8 at0 Tryz.underlying35 (by kernel_rfl) rfl rfl (by simp only [nums_length, List.length_set, List.length_replicate, List.length_take, List.length_drop, List.length_append, List.length_cons, List.length_nil, ofB_length, toB_length]; omega) src_str) ?_
 rintro _ H9 ⟨rfl, hS9⟩
 clear hS8
 refine OpsW.q rfl (q_assign (v := .int _ _) rfl) ?_
 refine OpsW.nil ?_
 refine SeqP.go ?_
 refine AW.seq ?_
 refine AW.region ?_
 refine OpsW.q rfl (q_move (v := .int _ _) rfl) ?_
 refine OpsW.q rfl (q_indexAddrA0 Tryz.underlying141 (by kernel_rfl) rfl rfl (by omega) (by omega)) ?_
 refine OpsW.ms (s_storeN hS9 at0 (by kernel_rfl) rfl rfl (by simp only [nums_length, List.length_set, List.length_replicate, List.length_take, List.length_drop, List.length_append, List.length_cons, List.length_nil, ofB_length, toB_length]; omega)) ?_
 rintro _ H10 ⟨rfl, hS10⟩
 clear hS9
 have hs := hS10
 simp only [show (16 : Int).toNat = 16 from rfl, Int.toNat_natCast] at hs
 rw [pad_list (d := data.drop (16 * j)) rfl] at hs
 replace hS10 := hs
 clear hs
 have hpl : (ofB (padB (data.drop (16 * j)))).length = 17 := by rw [ofB_length, padB_length]
 have hol := ofL_length (ofB (padB (data.drop (16 * j))))
 refine OpsW.nil ?_
 refine SeqP.go ?_
 refine AW.seq ?_
 refine AW.region ?_
 refine OpsW.q rfl (q_loadAN (n := 17) (k := .u8) (by kernel_rfl) rfl (hS10.blk at0) (by with_reducible assumption)) ?_
 refine OpsW.q rfl (o_call rfl Tryz.func104 rfl rfl (of_con hpl (bytesL_ofB _))) ?_
 obtain ⟨Hf11, le11, hA11, hB11⟩ := hS10.framed at1
 refine OpsW.m rfl (o_call rfl Tryz.func103 rfl rfl (add_con (ofL_length _) hA11 hal)) ?_
 rintro _ H11 ⟨rfl, hR11⟩
 have hS11 := hB11 _ _ hR11
 clear hR11 hB11 hA11
 clear hS10
 refine OpsW.nil ?_
 refine SeqP.go ?_
 refine AW.seq ?_
 refine AW.region ?_
 refine OpsW.q rfl (q_loadAN (n := 5) (k := .u64) (by kernel_rfl) rfl (hS11.blk at2) (by with_reducible assumption)) ?_
 obtain ⟨Hf12, le12, hA12, hB12⟩ := hS11.framed at1
 refine OpsW.m rfl (o_call rfl Tryz.func105 rfl rfl (times_con hrl hA12 (by rw [addK_length, hal]))) ?_
 rintro _ H12 ⟨rfl, hR12⟩
 have hS12 := hB12 _ _ hR12
 clear hR12 hB12 hA12
 clear hS11
 refine OpsW.nil ?_
 refine SeqP.go ?_
 refine AW.region ?_
 refine OpsW.q rfl (q_move (v := S _) rfl) ?_
 refine OpsW.q rfl (q_move (v := .int _ _) rfl) ?_
 refine OpsW.q rfl (q_sliceS_lo Tryz.underlying9 rfl rfl (by omega) (by omega)) ?_
 refine OpsW.q rfl (q_assign (v := S _) rfl) ?_
 refine OpsW.nil ?_
 refine BlockP.go ?_
 replace hS12 := hS12.del del0
 exact LoopP.go _ (by omega) ⟨j + 1, _, rfl, (by omega), Slots.eq ⟨(by rfl), (by show S _ = S _; rw [Int.toNat_natCast, show (16 : Int).toNat = 16 from rfl, drop_next _ _ rfl, List.drop_drop]; congr 2), (by rfl), (by rfl),  trivial⟩, (by rw [aP_succ]; exact hS12)⟩
theorem digitsR_con (s : List UInt8) (hs : s.length ≤ 17) (hV : numL s < 2 ^ 130) : Con Tryz.prog w0 68 #[S s] H (fun v H' => Sep H [.vec v 3 1 10 (nums .i64 (grps 13 10 130 (numL s)))] H') := by
 have hS0 : Sep H [] H := Sep.refl
 refine Con.intro Tryz.func68 rfl rfl ?_
 refine AW.seq ?_
 refine AW.region ?_
 refine OpsW.q rfl (q_assign (v := .slice _ _ _) rfl) ?_
 refine OpsW.nil ?_
 refine SeqP.go ?_
 refine AW.seq ?_
 refine AW.region ?_
 refine OpsW.m rfl (s_makeSliceN (kk := .i64) (by_ := 8) hS0 Tryz.underlying104 (by kernel_rfl) (by kernel_rfl) (by kernel_rfl) rfl rfl (by omega) (by omega) (by omega) (by omega) (by unfold maxLen; omega)) ?_
 rintro v7 H1 hS1
 clear hS0
 refine OpsW.q rfl (q_assign (v := v7) rfl) ?_
 refine OpsW.nil ?_
 refine SeqP.go ?_
 refine AW.seq ?_
 refine AW.seq ?_
 refine AW.region ?_
 refine OpsW.q rfl (q_assign (v := .int _ _) rfl) ?_
 refine OpsW.nil ?_
 refine SeqP.go ?_
 refine AW.block ?_
 refine AW.loop (fun m_ e_ H_ => ∃ (i : Nat) (v : Value) (e0 : Env), m_ = s.length - i ∧ (i ≤ s.length) ∧ e_ = upds e0 [(0, S s), (3, v), (4, .int .i64 (i : Int))] ∧ Sep H [.vec v 3 1 10 (nums .i64 (grps 13 10 (8 * i) (numL s)))] H_) _ ⟨0, v7, _, rfl, (by omega), Slots.eq ⟨(by rfl), (by rfl), (by rfl),  trivial⟩, (by rw [Nat.mul_zero, grps_zero]; exact hS1)⟩ ?_
 rintro m_ _ Hl0 ⟨i, v, e0, rfl, hf, rfl, hSl0⟩
 try clear hS1
 have hgl := grps_length 13 10 (8 * i) (numL s)
 refine AW.seq ?_
 refine AW.seq ?_
 refine AW.region ?_
 refine OpsW.q rfl (q_move (v := .int _ _) rfl) ?_
 refine OpsW.q rfl (q_move (v := S _) rfl) ?_
 refine OpsW.q rfl (q_lenS Tryz.underlying9 rfl) ?_
 refine OpsW.q rfl (q_lss rfl rfl) ?_
 refine OpsW.nil ?_
 refine SeqP.go ?_
 refine AW.cond2 rfl (fun h0 => ?_) (fun h0 => ?_)
 ·
  try simp only [z1, z2, z3, z4, z5, z6, z7, z8, z9, z10, z11, z12, z13, z14] at h0
  refine AW.exit ?_
  refine SeqP.exit ?_
  refine LoopP.exit ?_
  obtain rfl : i = s.length := by omega
  refine BlockP.here ?_
  refine SeqP.go ?_
  refine AW.seq ?_
  refine AW.region ?_
  refine OpsW.q rfl (q_move (v := v) rfl) ?_
  refine OpsW.q rfl (q_assign (v := v) rfl) ?_
  refine OpsW.nil ?_
  refine SeqP.go ?_
  refine AW.ret ?_
  refine RetP.mk1 (H' := Hl0) (v1 := v) rfl rfl  (Hp.le_refl _) ?_
  have hn := numL_lt s
  rw [grps_big (M := 8 * s.length) hV (by rw [Nat.pow_mul]; exact hn)]
  exact hSl0
 try simp only [z1, z2, z3, z4, z5, z6, z7, z8, z9, z10, z11, z12, z13, z14] at h0
 refine AW.skip ?_
 refine SeqP.go ?_
 refine AW.seq ?_
 refine AW.block ?_
 refine AW.seq ?_
 refine AW.region ?_
 refine OpsW.q rfl (q_assign (v := .int _ _) rfl) ?_
 refine OpsW.nil ?_
 refine SeqP.go ?_
 refine AW.block ?_
 refine AW.loop (fun m_ e_ H_ => ∃ (k : Nat) (v : Value) (e0 : Env), m_ = 8 - k ∧ (k ≤ 8) ∧ e_ = upds e0 [(0, S s), (3, v), (4, .int .i64 (i : Int)), (5, .int .i64 (k : Int))] ∧ Sep H [.vec v 3 1 10 (nums .i64 (grps 13 10 (8 * i + k) (numL s)))] H_) _ ⟨0, v, _, rfl, (by omega), Slots.eq ⟨(by rfl), (by rfl), (by rfl), (by rfl),  trivial⟩, hSl0⟩ ?_
 rintro m_ _ Hl1 ⟨k, v, e0, rfl, hf, rfl, hSl1⟩
 try clear hSl0
 have hgk := grps_length 13 10 (8 * i + k) (numL s)
 refine AW.seq ?_
 refine AW.seq ?_
 refine AW.region ?_
 refine OpsW.q rfl (q_move (v := .int _ _) rfl) ?_
 refine OpsW.q rfl (q_lss rfl rfl) ?_
 refine OpsW.nil ?_
 refine SeqP.go ?_
 refine AW.cond2 rfl (fun h1 => ?_) (fun h1 => ?_)
 ·
  try simp only [z1, z2, z3, z4, z5, z6, z7, z8, z9, z10, z11, z12, z13, z14] at h1
  refine AW.exit ?_
  refine SeqP.exit ?_
  refine LoopP.exit ?_
  obtain rfl : k = 8 := by omega
  refine BlockP.here ?_
  refine BlockP.go ?_
  refine SeqP.go ?_
  refine AW.region ?_
  refine OpsW.q rfl (q_move (v := .int _ _) rfl) ?_
  refine OpsW.q rfl (q_addI rfl rfl (by omega)) ?_
  refine OpsW.q rfl (q_assign (v := .int _ _) rfl) ?_
  refine OpsW.nil ?_
  exact LoopP.go _ (by omega) ⟨i + 1, v, _, rfl, (by omega), Slots.eq ⟨(by rfl), (by rfl), (by rfl),  trivial⟩, (by rw [Nat.mul_succ]; exact hSl1)⟩
 try simp only [z1, z2, z3, z4, z5, z6, z7, z8, z9, z10, z11, z12, z13, z14] at h1
 refine AW.skip ?_
 refine SeqP.go ?_
 refine AW.seq ?_
 refine AW.block ?_
 refine AW.seq ?_
 refine AW.region ?_
 refine OpsW.q rfl (q_move (v := .int _ _) rfl) ?_
 refine OpsW.q rfl (q_mulI rfl rfl (by omega)) ?_
 refine OpsW.q rfl (q_move (v := .int _ _) rfl) ?_
 refine OpsW.q rfl (q_addI rfl rfl (by omega)) ?_
 rw [show (8 * (i : Int) + (k : Int)) = ((8 * i + k : Nat) : Int) from by omega]
 refine OpsW.q rfl (q_assign (v := .int _ _) rfl) ?_
 refine OpsW.nil ?_
 refine SeqP.go ?_
 refine AW.seq ?_
 refine AW.region ?_
 refine OpsW.q rfl (q_move (v := S _) rfl) ?_
 refine OpsW.q rfl (q_move (v := .int _ _) rfl) ?_
 refine OpsW.q rfl (q_indexS Tryz.underlying9 rfl rfl (by omega) (by omega)) ?_
 refine OpsW.q rfl (q_move (v := .int _ _) rfl) ?_
 refine OpsW.q rfl (q_shr rfl rfl (by omega)) ?_
 refine OpsW.q rfl (q_and rfl rfl) ?_
 rw [Int.toNat_natCast, dig_test s (by omega)]
 refine OpsW.q rfl (q_eql rfl rfl) ?_
 refine OpsW.nil ?_
 refine SeqP.go ?_
 refine AW.cond rfl (fun h2 => ?_) (fun h2 => ?_)
 ·
  try simp only [z1, z2, z3, z4, z5, z6, z7, z8, z9, z10, z11, z12, z13, z14] at h2
  have hbit : numL s / 2 ^ (8 * i + k) % 2 = 1 := by omega
  have h130 := dig_small hV hbit
  refine AW.drawK [] 12 rfl (by kernel_rfl) ?_
  refine SeqK.q rfl (q_move (v := v) rfl) ?_
  refine SeqK.q rfl (q_move (v := .int _ _) rfl) ?_
  refine SeqK.q rfl (q_quoI rfl rfl (by omega)) ?_
  refine SeqK.q rfl (q_move (v := v) rfl) ?_
  refine SeqK.q rfl (q_move (v := .int _ _) rfl) ?_
  refine SeqK.q rfl (q_quoI rfl rfl (by omega)) ?_
  refine SeqK.q rfl (q_indexV1 (hSl1.vec at0) Tryz.underlying104 (by kernel_rfl) rfl rfl (by omega) (by omega)) ?_
  refine SeqK.q rfl (q_loadVN (hSl1.vec at0) (by kernel_rfl) rfl (by omega)) ?_
  refine SeqK.q rfl (q_move (v := .int _ _) rfl) ?_
  refine SeqK.q rfl (q_remI rfl rfl (by omega)) ?_
  refine SeqK.q rfl (q_shl rfl rfl (by omega)) ?_
  refine SeqK.q rfl (q_or rfl rfl) ?_
  refine SeqK.done ?_
  refine OpsW.q rfl (q_indexV1 (hSl1.vec at0) Tryz.underlying104 (by kernel_rfl) rfl rfl (by omega) (by omega)) ?_
  refine OpsW.ms (s_storeVN hSl1 at0 (by kernel_rfl) rfl rfl (by omega)) ?_
  rintro _ H2 ⟨rfl, hS2⟩
  clear hSl1
  refine OpsW.nil ?_
  refine BlockP.go ?_
  refine SeqP.go ?_
  refine AW.region ?_
  refine OpsW.q rfl (q_move (v := .int _ _) rfl) ?_
  refine OpsW.q rfl (q_addI rfl rfl (by omega)) ?_
  refine OpsW.q rfl (q_assign (v := .int _ _) rfl) ?_
  refine OpsW.nil ?_
  exact LoopP.go _ (by omega) ⟨k + 1, v, _, rfl, (by omega), Slots.eq ⟨(by rfl), (by rfl), (by rfl), (by rfl),  trivial⟩, (by rw [show 8 * i + (k + 1) = 8 * i + k + 1 from rfl, ← dig_step h130 hbit]; exact hS2)⟩
 try simp only [z1, z2, z3, z4, z5, z6, z7, z8, z9, z10, z11, z12, z13, z14] at h2
 have hbit0 : numL s / 2 ^ (8 * i + k) % 2 = 0 := by omega
 refine AW.skip ?_
 refine BlockP.go ?_
 refine SeqP.go ?_
 refine AW.region ?_
 refine OpsW.q rfl (q_move (v := .int _ _) rfl) ?_
 refine OpsW.q rfl (q_addI rfl rfl (by omega)) ?_
 refine OpsW.q rfl (q_assign (v := .int _ _) rfl) ?_
 refine OpsW.nil ?_
 exact LoopP.go _ (by omega) ⟨k + 1, v, _, rfl, (by omega), Slots.eq ⟨(by rfl), (by rfl), (by rfl), (by rfl),  trivial⟩, (by rw [show 8 * i + (k + 1) = 8 * i + k + 1 from rfl, ← grps_skip 13 10 _ _ (by decide) hbit0]; exact hSl1)⟩
theorem carriedR_con {v : Value} {xs : List Int} (hS0 : Sep H0 [.vec v 3 1 10 (nums .i64 xs)] H) (hl : xs.length = 10) : Con Tryz.prog w0 70 #[v] H (fun u H' => v = u ∧ Sep H0 [.vec v 3 1 10 (nums .i64 (carT xs))] H') := by
 refine Con.intro Tryz.func70 rfl rfl ?_
 refine AW.seq ?_
 refine AW.region ?_
 refine OpsW.q rfl (q_assign (v := .slice _ _ _) rfl) ?_
 refine OpsW.nil ?_
 refine SeqP.go ?_
 refine AW.seq ?_
 refine AW.seq ?_
 refine AW.region ?_
 refine OpsW.q rfl (q_assign (v := .int _ _) rfl) ?_
 refine OpsW.nil ?_
 refine SeqP.go ?_
 refine AW.block ?_
 refine AW.loop (fun m_ e_ H_ => ∃ (r : Nat) (e0 : Env), m_ = 3 - r ∧ (r ≤ 3) ∧ e_ = upds e0 [(0, v), (3, .int .i64 (r : Int))] ∧ Sep H0 [.vec v 3 1 10 (nums .i64 (carR .i64 8192 8191 10 xs r))] H_) _ ⟨0, _, rfl, (by omega), Slots.eq ⟨(by rfl), (by rfl),  trivial⟩, (by rw [carR_zero]; exact hS0)⟩ ?_
 rintro m_ _ Hl0 ⟨r, e0, rfl, hf, rfl, hSl0⟩
 try clear hS0
 have hl1 : (carR .i64 8192 8191 10 xs r).length = 10 := by rw [carR_length, hl]
 refine AW.seq ?_
 refine AW.seq ?_
 refine AW.region ?_
 refine OpsW.q rfl (q_move (v := .int _ _) rfl) ?_
 refine OpsW.q rfl (q_lss rfl rfl) ?_
 refine OpsW.nil ?_
 refine SeqP.go ?_
 refine AW.cond2 rfl (fun h0 => ?_) (fun h0 => ?_)
 ·
  try simp only [z1, z2, z3, z4, z5, z6, z7, z8, z9, z10, z11, z12, z13, z14] at h0
  refine AW.exit ?_
  refine SeqP.exit ?_
  refine LoopP.exit ?_
  obtain rfl : r = 3 := by omega
  refine BlockP.here ?_
  refine SeqP.go ?_
  refine AW.seq ?_
  refine AW.region ?_
  refine OpsW.q rfl (q_move (v := v) rfl) ?_
  refine OpsW.q rfl (q_assign (v := v) rfl) ?_
  refine OpsW.nil ?_
  refine SeqP.go ?_
  refine AW.ret ?_
  refine RetP.mk1 (H' := Hl0) (v1 := v) rfl rfl  (Hp.le_refl _) ?_
  exact ⟨rfl, by unfold carT; exact hSl0⟩
 try simp only [z1, z2, z3, z4, z5, z6, z7, z8, z9, z10, z11, z12, z13, z14] at h0
 refine AW.skip ?_
 refine SeqP.go ?_
 refine AW.seq ?_
 refine AW.block ?_
 refine AW.seq ?_
 refine AW.region ?_
 refine OpsW.q rfl (q_assign (v := .int _ _) rfl) ?_
 refine OpsW.nil ?_
 refine SeqP.go ?_
 refine AW.seq ?_
 refine AW.seq ?_
 refine AW.region ?_
 refine OpsW.q rfl (q_assign (v := .int _ _) rfl) ?_
 refine OpsW.nil ?_
 refine SeqP.go ?_
 refine AW.block ?_
 refine AW.loop (fun m_ e_ H_ => ∃ (i : Nat) (e0 : Env), m_ = 10 - i ∧ (i ≤ 10) ∧ e_ = upds e0 [(0, v), (3, .int .i64 (r : Int)), (4, .int .i64 (carK .i64 8192 8191 (carR .i64 8192 8191 10 xs r) i).2), (5, .int .i64 (i : Int))] ∧ Sep H0 [.vec v 3 1 10 (nums .i64 (carK .i64 8192 8191 (carR .i64 8192 8191 10 xs r) i).1)] H_) _ ⟨0, _, rfl, (by omega), Slots.eq ⟨(by rfl), (by rfl), (by rw [carK_zero]; rfl), (by rfl),  trivial⟩, (by rw [carK_zero]; exact hSl0)⟩ ?_
 rintro m_ _ Hl1 ⟨i, e0, rfl, hf, rfl, hSl1⟩
 try clear hSl0
 have hl2 : (carK .i64 8192 8191 (carR .i64 8192 8191 10 xs r) i).1.length = 10 := by rw [carK_length, hl1]
 refine AW.seq ?_
 refine AW.seq ?_
 refine AW.region ?_
 refine OpsW.q rfl (q_move (v := .int _ _) rfl) ?_
 refine OpsW.q rfl (q_lss rfl rfl) ?_
 refine OpsW.nil ?_
 refine SeqP.go ?_
 refine AW.cond2 rfl (fun h1 => ?_) (fun h1 => ?_)
 ·
  try simp only [z1, z2, z3, z4, z5, z6, z7, z8, z9, z10, z11, z12, z13, z14] at h1
  refine AW.exit ?_
  refine SeqP.exit ?_
  refine LoopP.exit ?_
  obtain rfl : i = 10 := by omega
  refine BlockP.here ?_
  refine SeqP.go ?_
  refine AW.region ?_
  refine OpsW.q rfl (q_move (v := v) rfl) ?_
  refine OpsW.q rfl (q_move (v := v) rfl) ?_
  refine OpsW.q rfl (q_indexV1 (hSl1.vec at0) Tryz.underlying104 (by kernel_rfl) rfl rfl (by omega) (by omega)) ?_
  refine OpsW.q rfl (q_loadVN (hSl1.vec at0) (by kernel_rfl) rfl (by omega)) ?_
  refine OpsW.q rfl (q_move (v := .int _ _) rfl) ?_
  refine OpsW.q rfl (q_mul rfl rfl) ?_
  refine OpsW.q rfl (q_add rfl rfl) ?_
  refine OpsW.q rfl (q_indexV1 (hSl1.vec at0) Tryz.underlying104 (by kernel_rfl) rfl rfl (by omega) (by omega)) ?_
  refine OpsW.ms (s_storeVN hSl1 at0 (by kernel_rfl) rfl rfl (by omega)) ?_
  rintro _ H1 ⟨rfl, hS1⟩
  clear hSl1
  refine OpsW.nil ?_
  refine BlockP.go ?_
  refine SeqP.go ?_
  refine AW.region ?_
  refine OpsW.q rfl (q_move (v := .int _ _) rfl) ?_
  refine OpsW.q rfl (q_add rfl rfl) ?_
  refine OpsW.q rfl (q_assign (v := .int _ _) rfl) ?_
  refine OpsW.nil ?_
  exact LoopP.go _ (by omega) ⟨r + 1, _, rfl, (by omega), Slots.eq ⟨(by rfl), (by exact i64_int (by omega) (by omega) (by omega)),  trivial⟩, (by rw [carR_succ]; unfold car1; exact hS1)⟩
 try simp only [z1, z2, z3, z4, z5, z6, z7, z8, z9, z10, z11, z12, z13, z14] at h1
 refine AW.skip ?_
 refine SeqP.go ?_
 refine AW.seq ?_
 refine AW.block ?_
 refine AW.seq ?_
 refine AW.region ?_
 refine OpsW.q rfl (q_move (v := v) rfl) ?_
 refine OpsW.q rfl (q_move (v := .int _ _) rfl) ?_
 refine OpsW.q rfl (q_move (v := v) rfl) ?_
 refine OpsW.q rfl (q_move (v := .int _ _) rfl) ?_
 refine OpsW.q rfl (q_indexV1 (hSl1.vec at0) Tryz.underlying104 (by kernel_rfl) rfl rfl (by omega) (by omega)) ?_
 refine OpsW.q rfl (q_loadVN (hSl1.vec at0) (by kernel_rfl) rfl (by omega)) ?_
 refine OpsW.q rfl (q_move (v := .int _ _) rfl) ?_
 refine OpsW.q rfl (q_add rfl rfl) ?_
 refine OpsW.q rfl (q_indexV1 (hSl1.vec at0) Tryz.underlying104 (by kernel_rfl) rfl rfl (by omega) (by omega)) ?_
 refine OpsW.ms (s_storeVN hSl1 at0 (by kernel_rfl) rfl rfl (by omega)) ?_
 rintro _ H2 ⟨rfl, hS2⟩
 clear hSl1
 refine OpsW.nil ?_
 refine SeqP.go ?_
 refine AW.seq ?_
 refine AW.region ?_
 refine OpsW.q rfl (q_move (v := v) rfl) ?_
 refine OpsW.q rfl (q_move (v := .int _ _) rfl) ?_
 refine OpsW.q rfl (q_indexV1 (hS2.vec at0) Tryz.underlying104 (by kernel_rfl) rfl rfl (by omega) (by omega)) ?_
 refine OpsW.q rfl (q_loadVN (hS2.vec at0) (by kernel_rfl) rfl (by simp only [nums_length, List.length_set, List.length_replicate, List.length_take, List.length_drop, List.length_append, List.length_cons, List.length_nil, ofB_length, toB_length]; omega)) ?_
 refine OpsW.q rfl (q_shrL 13 rfl rfl (by decide) rfl) ?_
 refine OpsW.q rfl (q_assign (v := .int _ _) rfl) ?_
 refine OpsW.nil ?_
 refine SeqP.go ?_
 refine AW.region ?_
 refine OpsW.q rfl (q_move (v := v) rfl) ?_
 refine OpsW.q rfl (q_move (v := .int _ _) rfl) ?_
 refine OpsW.q rfl (q_move (v := v) rfl) ?_
 refine OpsW.q rfl (q_move (v := .int _ _) rfl) ?_
 refine OpsW.q rfl (q_indexV1 (hS2.vec at0) Tryz.underlying104 (by kernel_rfl) rfl rfl (by omega) (by omega)) ?_
 refine OpsW.q rfl (q_loadVN (hS2.vec at0) (by kernel_rfl) rfl (by simp only [nums_length, List.length_set, List.length_replicate, List.length_take, List.length_drop, List.length_append, List.length_cons, List.length_nil, ofB_length, toB_length]; omega)) ?_
 refine OpsW.q rfl (q_and rfl rfl) ?_
 refine OpsW.q rfl (q_indexV1 (hS2.vec at0) Tryz.underlying104 (by kernel_rfl) rfl rfl (by omega) (by omega)) ?_
 refine OpsW.ms (s_storeVN hS2 at0 (by kernel_rfl) rfl rfl (by simp only [nums_length, List.length_set, List.length_replicate, List.length_take, List.length_drop, List.length_append, List.length_cons, List.length_nil, ofB_length, toB_length]; omega)) ?_
 rintro _ H3 ⟨rfl, hS3⟩
 clear hS2
 refine OpsW.nil ?_
 refine BlockP.go ?_
 refine SeqP.go ?_
 refine AW.region ?_
 refine OpsW.q rfl (q_move (v := .int _ _) rfl) ?_
 refine OpsW.q rfl (q_add rfl rfl) ?_
 refine OpsW.q rfl (q_assign (v := .int _ _) rfl) ?_
 refine OpsW.nil ?_
 exact LoopP.go _ (by omega) ⟨i + 1, _, rfl, (by omega), Slots.eq ⟨(by rfl), (by rfl), (by rw [carK_succ]; show Value.int .i64 (List.getD (List.set _ _ _) _ _ / _) = _; rw [getD_set_self (by rw [Int.toNat_natCast]; omega)]; rfl), (by exact i64_int (by omega) (by omega) (by omega)),  trivial⟩, (by rw [carK_succ]; have hs := hS3; rw [getD_set_self (by rw [Int.toNat_natCast]; omega), List.set_set] at hs; exact hs)⟩
theorem timesR_con {va vb : Value} {xs ys : List Int} (hVa : Vec H 3 1 va 10 (nums .i64 xs)) (hVb : Vec H 3 1 vb 10 (nums .i64 ys)) (hx : xs.length = 10) (hy : ys.length = 10) : Con Tryz.prog w0 69 #[va, vb] H (fun u H' => Sep H [.vec u 3 1 10 (nums .i64 (carT (mulA .i64 10 xs ys 10)))] H') := by
 have hS0 : Sep H [] H := Sep.refl
 refine Con.intro Tryz.func69 rfl rfl ?_
 refine AW.seq ?_
 refine AW.region ?_
 refine OpsW.q rfl (q_assign (v := .slice _ _ _) rfl) ?_
 refine OpsW.nil ?_
 refine SeqP.go ?_
 refine AW.seq ?_
 refine AW.region ?_
 refine OpsW.m rfl (s_makeSliceN (kk := .i64) (by_ := 8) hS0 Tryz.underlying104 (by kernel_rfl) (by kernel_rfl) (by kernel_rfl) rfl rfl (by omega) (by omega) (by omega) (by omega) (by unfold maxLen; omega)) ?_
 rintro v8 H1 hS1
 clear hS0
 refine OpsW.q rfl (q_assign (v := v8) rfl) ?_
 refine OpsW.nil ?_
 refine SeqP.go ?_
 refine AW.seq ?_
 refine AW.seq ?_
 refine AW.region ?_
 refine OpsW.q rfl (q_assign (v := .int _ _) rfl) ?_
 refine OpsW.nil ?_
 refine SeqP.go ?_
 refine AW.block ?_
 refine AW.loop (fun m_ e_ H_ => ∃ (i : Nat) (v : Value) (e0 : Env), m_ = 10 - i ∧ (i ≤ 10) ∧ e_ = upds e0 [(0, va), (1, vb), (5, v), (6, .int .i64 (i : Int))] ∧ Sep H [.vec v 3 1 10 (nums .i64 (mulA .i64 10 xs ys i))] H_) _ ⟨0, v8, _, rfl, (by omega), Slots.eq ⟨(by rfl), (by rfl), (by rfl), (by rfl),  trivial⟩, (by rw [mulA_zero]; exact hS1)⟩ ?_
 rintro m_ _ Hl0 ⟨i, v, e0, rfl, hf, rfl, hSl0⟩
 try clear hS1
 have hm1 : (mulA .i64 10 xs ys i).length = 10 := mulA_length _ _ _ _ _
 refine AW.seq ?_
 refine AW.seq ?_
 refine AW.region ?_
 refine OpsW.q rfl (q_move (v := .int _ _) rfl) ?_
 refine OpsW.q rfl (q_lss rfl rfl) ?_
 refine OpsW.nil ?_
 refine SeqP.go ?_
 refine AW.cond2 rfl (fun h0 => ?_) (fun h0 => ?_)
 ·
  try simp only [z1, z2, z3, z4, z5, z6, z7, z8, z9, z10, z11, z12, z13, z14] at h0
  refine AW.exit ?_
  refine SeqP.exit ?_
  refine LoopP.exit ?_
  obtain rfl : i = 10 := by omega
  refine BlockP.here ?_
  refine SeqP.go ?_
  refine AW.seq ?_
  refine AW.region ?_
  refine OpsW.q rfl (q_move (v := v) rfl) ?_
  obtain ⟨Hf2, le2, hA2, hB2⟩ := hSl0.framed at0
  refine OpsW.m rfl (o_call rfl Tryz.func70 rfl rfl (carriedR_con hA2 hm1)) ?_
  rintro _ H2 ⟨rfl, hR2⟩
  have hS2 := hB2 _ _ hR2
  clear hR2 hB2 hA2
  clear hSl0
  refine OpsW.q rfl (q_assign (v := v) rfl) ?_
  refine OpsW.nil ?_
  refine SeqP.go ?_
  refine AW.ret ?_
  refine RetP.mk1 (H' := H2) (v1 := v) rfl rfl  (Hp.le_refl _) ?_
  exact hS2
 try simp only [z1, z2, z3, z4, z5, z6, z7, z8, z9, z10, z11, z12, z13, z14] at h0
 refine AW.skip ?_
 refine SeqP.go ?_
 refine AW.seq ?_
 refine AW.block ?_
 refine AW.seq ?_
 refine AW.region ?_
 refine OpsW.q rfl (q_assign (v := .int _ _) rfl) ?_
 refine OpsW.nil ?_
 refine SeqP.go ?_
 refine AW.block ?_
 refine AW.loop (fun m_ e_ H_ => ∃ (j : Nat) (v : Value) (e0 : Env), m_ = 10 - j ∧ (j ≤ 10) ∧ e_ = upds e0 [(0, va), (1, vb), (5, v), (6, .int .i64 (i : Int)), (7, .int .i64 (j : Int))] ∧ Sep H [.vec v 3 1 10 (nums .i64 (mulR .i64 10 (xs.getD i 0) ys (mulA .i64 10 xs ys i) i j))] H_) _ ⟨0, v, _, rfl, (by omega), Slots.eq ⟨(by rfl), (by rfl), (by rfl), (by rfl), (by rfl),  trivial⟩, (by rw [mulR_zero]; exact hSl0)⟩ ?_
 rintro m_ _ Hl1 ⟨j, v, e0, rfl, hf, rfl, hSl1⟩
 try clear hSl0
 have hm2 : (mulR .i64 10 (xs.getD i 0) ys (mulA .i64 10 xs ys i) i j).length = 10 := by rw [mulR_length, hm1]
 refine AW.seq ?_
 refine AW.seq ?_
 refine AW.region ?_
 refine OpsW.q rfl (q_move (v := .int _ _) rfl) ?_
 refine OpsW.q rfl (q_lss rfl rfl) ?_
 refine OpsW.nil ?_
 refine SeqP.go ?_
 refine AW.cond2 rfl (fun h1 => ?_) (fun h1 => ?_)
 ·
  try simp only [z1, z2, z3, z4, z5, z6, z7, z8, z9, z10, z11, z12, z13, z14] at h1
  refine AW.exit ?_
  refine SeqP.exit ?_
  refine LoopP.exit ?_
  obtain rfl : j = 10 := by omega
  refine BlockP.here ?_
  refine BlockP.go ?_
  refine SeqP.go ?_
  refine AW.region ?_
  refine OpsW.q rfl (q_move (v := .int _ _) rfl) ?_
  refine OpsW.q rfl (q_addI rfl rfl (by omega)) ?_
  refine OpsW.q rfl (q_assign (v := .int _ _) rfl) ?_
  refine OpsW.nil ?_
  exact LoopP.go _ (by omega) ⟨i + 1, v, _, rfl, (by omega), Slots.eq ⟨(by rfl), (by rfl), (by rfl), (by rfl),  trivial⟩, (by rw [mulA_succ]; exact hSl1)⟩
 try simp only [z1, z2, z3, z4, z5, z6, z7, z8, z9, z10, z11, z12, z13, z14] at h1
 refine AW.skip ?_
 refine SeqP.go ?_
 refine AW.seq ?_
 refine AW.block ?_
 refine AW.seq ?_
 refine AW.region ?_
 refine OpsW.q rfl (q_move (v := .int _ _) rfl) ?_
 refine OpsW.q rfl (q_move (v := .int _ _) rfl) ?_
 refine OpsW.q rfl (q_addI rfl rfl (by omega)) ?_
 refine OpsW.q rfl (q_lss rfl rfl) ?_
 refine OpsW.nil ?_
 refine SeqP.go ?_
 refine AW.cond rfl (fun h2 => ?_) (fun h2 => ?_)
 ·
  try simp only [z1, z2, z3, z4, z5, z6, z7, z8, z9, z10, z11, z12, z13, z14] at h2
  refine AW.drawK [] 20 rfl (by kernel_rfl) ?_
  refine SeqK.q rfl (q_move (v := v) rfl) ?_
  refine SeqK.q rfl (q_move (v := .int _ _) rfl) ?_
  refine SeqK.q rfl (q_move (v := .int _ _) rfl) ?_
  refine SeqK.q rfl (q_addI rfl rfl (by omega)) ?_
  refine SeqK.q rfl (q_move (v := v) rfl) ?_
  refine SeqK.q rfl (q_move (v := .int _ _) rfl) ?_
  refine SeqK.q rfl (q_move (v := .int _ _) rfl) ?_
  refine SeqK.q rfl (q_addI rfl rfl (by omega)) ?_
  refine SeqK.q rfl (q_indexV1 (hSl1.vec at0) Tryz.underlying104 (by kernel_rfl) rfl rfl (by omega) (by omega)) ?_
  refine SeqK.q rfl (q_loadVN (hSl1.vec at0) (by kernel_rfl) rfl (by omega)) ?_
  refine SeqK.q rfl (q_move (v := va) rfl) ?_
  refine SeqK.q rfl (q_move (v := .int _ _) rfl) ?_
  refine SeqK.q rfl (q_indexV1 (hVa.le hSl1.le) Tryz.underlying104 (by kernel_rfl) rfl rfl (by omega) (by omega)) ?_
  refine SeqK.q rfl (q_loadVN (hVa.le hSl1.le) (by kernel_rfl) rfl (by omega)) ?_
  refine SeqK.q rfl (q_move (v := vb) rfl) ?_
  refine SeqK.q rfl (q_move (v := .int _ _) rfl) ?_
  refine SeqK.q rfl (q_indexV1 (hVb.le hSl1.le) Tryz.underlying104 (by kernel_rfl) rfl rfl (by omega) (by omega)) ?_
  refine SeqK.q rfl (q_loadVN (hVb.le hSl1.le) (by kernel_rfl) rfl (by omega)) ?_
  refine SeqK.q rfl (q_mul rfl rfl) ?_
  refine SeqK.q rfl (q_add rfl rfl) ?_
  refine SeqK.done ?_
  refine OpsW.q rfl (q_indexV1 (hSl1.vec at0) Tryz.underlying104 (by kernel_rfl) rfl rfl (by omega) (by omega)) ?_
  refine OpsW.ms (s_storeVN hSl1 at0 (by kernel_rfl) rfl rfl (by omega)) ?_
  rintro _ H3 ⟨rfl, hS3⟩
  clear hSl1
  refine OpsW.nil ?_
  refine BlockP.go ?_
  refine SeqP.go ?_
  refine AW.region ?_
  refine OpsW.q rfl (q_move (v := .int _ _) rfl) ?_
  refine OpsW.q rfl (q_addI rfl rfl (by omega)) ?_
  refine OpsW.q rfl (q_assign (v := .int _ _) rfl) ?_
  refine OpsW.nil ?_
  exact LoopP.go _ (by omega) ⟨j + 1, v, _, rfl, (by omega), Slots.eq ⟨(by rfl), (by rfl), (by rfl), (by rfl), (by rfl),  trivial⟩, (by rw [mulR_succ, mulC_lt (by omega)]; have hs := hS3; rw [show ((i : Int) + (j : Int)).toNat = i + j from by omega] at hs; exact hs)⟩
 try simp only [z1, z2, z3, z4, z5, z6, z7, z8, z9, z10, z11, z12, z13, z14] at h2
 refine AW.drawK [] 23 rfl (by kernel_rfl) ?_
 refine SeqK.q rfl (q_move (v := v) rfl) ?_
 refine SeqK.q rfl (q_move (v := .int _ _) rfl) ?_
 refine SeqK.q rfl (q_move (v := .int _ _) rfl) ?_
 refine SeqK.q rfl (q_addI rfl rfl (by omega)) ?_
 refine SeqK.q rfl (q_subI rfl rfl (by omega)) ?_
 refine SeqK.q rfl (q_move (v := v) rfl) ?_
 refine SeqK.q rfl (q_move (v := .int _ _) rfl) ?_
 refine SeqK.q rfl (q_move (v := .int _ _) rfl) ?_
 refine SeqK.q rfl (q_addI rfl rfl (by omega)) ?_
 refine SeqK.q rfl (q_subI rfl rfl (by omega)) ?_
 refine SeqK.q rfl (q_indexV1 (hSl1.vec at0) Tryz.underlying104 (by kernel_rfl) rfl rfl (by omega) (by omega)) ?_
 refine SeqK.q rfl (q_loadVN (hSl1.vec at0) (by kernel_rfl) rfl (by omega)) ?_
 refine SeqK.q rfl (q_move (v := va) rfl) ?_
 refine SeqK.q rfl (q_move (v := .int _ _) rfl) ?_
 refine SeqK.q rfl (q_indexV1 (hVa.le hSl1.le) Tryz.underlying104 (by kernel_rfl) rfl rfl (by omega) (by omega)) ?_
 refine SeqK.q rfl (q_loadVN (hVa.le hSl1.le) (by kernel_rfl) rfl (by omega)) ?_
 refine SeqK.q rfl (q_mul rfl rfl) ?_
 refine SeqK.q rfl (q_move (v := vb) rfl) ?_
 refine SeqK.q rfl (q_move (v := .int _ _) rfl) ?_
 refine SeqK.q rfl (q_indexV1 (hVb.le hSl1.le) Tryz.underlying104 (by kernel_rfl) rfl rfl (by omega) (by omega)) ?_
 refine SeqK.q rfl (q_loadVN (hVb.le hSl1.le) (by kernel_rfl) rfl (by omega)) ?_
 refine SeqK.q rfl (q_mul rfl rfl) ?_
 refine SeqK.q rfl (q_add rfl rfl) ?_
 refine SeqK.done ?_
 refine OpsW.q rfl (q_indexV1 (hSl1.vec at0) Tryz.underlying104 (by kernel_rfl) rfl rfl (by omega) (by omega)) ?_
 refine OpsW.ms (s_storeVN hSl1 at0 (by kernel_rfl) rfl rfl (by omega)) ?_
 rintro _ H4 ⟨rfl, hS4⟩
 clear hSl1
 refine OpsW.nil ?_
 refine BlockP.go ?_
 refine SeqP.go ?_
 refine AW.region ?_
 refine OpsW.q rfl (q_move (v := .int _ _) rfl) ?_
 refine OpsW.q rfl (q_addI rfl rfl (by omega)) ?_
 refine OpsW.q rfl (q_assign (v := .int _ _) rfl) ?_
 refine OpsW.nil ?_
 exact LoopP.go _ (by omega) ⟨j + 1, v, _, rfl, (by omega), Slots.eq ⟨(by rfl), (by rfl), (by rfl), (by rfl), (by rfl),  trivial⟩, (by rw [mulR_succ, mulC_ge (by omega)]; have hs := hS4; rw [show ((i : Int) + (j : Int) - 10).toNat = i + j - 10 from by omega] at hs; exact hs)⟩
theorem restR_con {v : Value} {xs : List Int} (hS0 : Sep H0 [.vec v 3 1 10 (nums .i64 xs)] H) (hl : xs.length = 10) : Con Tryz.prog w0 71 #[v] H (fun u H' => Sep H0 [.vec u 3 1 10 (nums .i64 (restR xs))] H') := by
 refine Con.intro Tryz.func71 rfl rfl ?_
 refine AW.seq ?_
 refine AW.region ?_
 refine OpsW.q rfl (q_assign (v := .slice _ _ _) rfl) ?_
 refine OpsW.nil ?_
 refine SeqP.go ?_
 refine AW.seq ?_
 refine AW.region ?_
 refine OpsW.q rfl (q_move (v := v) rfl) ?_
 refine OpsW.q rfl (q_indexV1 (hS0.vec at0) Tryz.underlying104 (by kernel_rfl) rfl rfl (by omega) (by omega)) ?_
 refine OpsW.q rfl (q_loadVN (hS0.vec at0) (by kernel_rfl) rfl (by omega)) ?_
 refine OpsW.q rfl (q_geq rfl rfl) ?_
 refine OpsW.q rfl (q_assign (v := .bool _) rfl) ?_
 refine OpsW.nil ?_
 refine SeqP.go ?_
 refine AW.seq ?_
 refine AW.seq ?_
 refine AW.region ?_
 refine OpsW.q rfl (q_assign (v := .int _ _) rfl) ?_
 refine OpsW.nil ?_
 refine SeqP.go ?_
 refine AW.block ?_
 refine AW.loop (fun m_ e_ H_ => ∃ (k : Nat) (e0 : Env), m_ = 9 - k ∧ (k ≤ 9) ∧ e_ = upds e0 [(0, v), (3, .bool (grK xs k)), (4, .int .i64 ((k + 1 : Nat) : Int))] ∧ Sep H0 [.vec v 3 1 10 (nums .i64 xs)] H_) _ ⟨0, _, rfl, (by omega), Slots.eq ⟨(by rfl), (by rw [grK_zero]; rfl), (by rfl),  trivial⟩, hS0⟩ ?_
 rintro m_ _ Hl0 ⟨k, e0, rfl, hf, rfl, hSl0⟩
 try clear hS0
 refine AW.seq ?_
 refine AW.seq ?_
 refine AW.region ?_
 refine OpsW.q rfl (q_move (v := .int _ _) rfl) ?_
 refine OpsW.q rfl (q_lss rfl rfl) ?_
 refine OpsW.nil ?_
 refine SeqP.go ?_
 refine AW.cond2 rfl (fun h0 => ?_) (fun h0 => ?_)
 ·
  try simp only [z1, z2, z3, z4, z5, z6, z7, z8, z9, z10, z11, z12, z13, z14] at h0
  refine AW.exit ?_
  refine SeqP.exit ?_
  refine LoopP.exit ?_
  obtain rfl : k = 9 := by omega
  refine BlockP.here ?_
  refine SeqP.go ?_
  refine AW.seq ?_
  refine AW.seq ?_
  refine AW.region ?_
  refine OpsW.q rfl (q_move (v := .bool _) rfl) ?_
  refine OpsW.nil ?_
  refine SeqP.go ?_
  refine AW.cond rfl (fun h1 => ?_) (fun h1 => ?_)
  ·
   try simp only [z1, z2, z3, z4, z5, z6, z7, z8, z9, z10, z11, z12, z13, z14] at h1
   rw [restR_yes h1]
   refine AW.seq ?_
   refine AW.region ?_
   refine OpsW.m rfl (s_makeSliceN (kk := .i64) (by_ := 8) hSl0 Tryz.underlying104 (by kernel_rfl) (by kernel_rfl) (by kernel_rfl) rfl rfl (by omega) (by omega) (by omega) (by omega) (by unfold maxLen; omega)) ?_
   rintro v23 H1 hS1
   clear hSl0
   refine OpsW.q rfl (q_assign (v := v23) rfl) ?_
   refine OpsW.nil ?_
   refine SeqP.go ?_
   refine AW.seq ?_
   refine AW.region ?_
   refine OpsW.q rfl (q_move (v := v23) rfl) ?_
   refine OpsW.q rfl (q_move (v := v) rfl) ?_
   refine OpsW.q rfl (q_indexV1 (hS1.vec at1) Tryz.underlying104 (by kernel_rfl) rfl rfl (by omega) (by omega)) ?_
   refine OpsW.q rfl (q_loadVN (hS1.vec at1) (by kernel_rfl) rfl (by omega)) ?_
   refine OpsW.q rfl (q_sub rfl rfl) ?_
   refine OpsW.q rfl (q_indexV1 (hS1.vec at0) Tryz.underlying104 (by kernel_rfl) rfl rfl (by omega) (by omega)) ?_
   refine OpsW.ms (s_storeVN hS1 at0 (by kernel_rfl) rfl rfl (by simp only [nums_length, List.length_set, List.length_replicate, List.length_take, List.length_drop, List.length_append, List.length_cons, List.length_nil, ofB_length, toB_length]; omega)) ?_
   rintro _ H2 ⟨rfl, hS2⟩
   clear hS1
   refine OpsW.nil ?_
   refine SeqP.go ?_
   refine AW.seq ?_
   refine AW.region ?_
   refine OpsW.q rfl (q_move (v := v23) rfl) ?_
   refine OpsW.q rfl (q_assign (v := v23) rfl) ?_
   refine OpsW.nil ?_
   refine SeqP.go ?_
   refine AW.ret ?_
   refine SeqP.ret ?_
   refine RetP.mk1 (H' := H2) (v1 := v23) rfl rfl  (Hp.le_refl _) ?_
   exact hS2.del del1
  try simp only [z1, z2, z3, z4, z5, z6, z7, z8, z9, z10, z11, z12, z13, z14] at h1
  rw [restR_no (by simpa using h1)]
  refine AW.skip ?_
  refine SeqP.go ?_
  refine AW.seq ?_
  refine AW.region ?_
  refine OpsW.q rfl (q_move (v := v) rfl) ?_
  refine OpsW.q rfl (q_assign (v := v) rfl) ?_
  refine OpsW.nil ?_
  refine SeqP.go ?_
  refine AW.ret ?_
  refine RetP.mk1 (H' := Hl0) (v1 := v) rfl rfl  (Hp.le_refl _) ?_
  exact hSl0
 try simp only [z1, z2, z3, z4, z5, z6, z7, z8, z9, z10, z11, z12, z13, z14] at h0
 refine AW.skip ?_
 refine SeqP.go ?_
 refine AW.seq ?_
 refine AW.block ?_
 refine AW.region ?_
 refine OpsW.q rfl (q_move (v := .bool _) rfl) ?_
 refine OpsW.qb rfl (q_move (v := .bool _) rfl) ?_
 intro b15 eb15
 refine OpsW.g rfl rfl rfl (fun hB => by simp only [Bool.and_eq_true, beq_iff_eq] at hB; obtain rfl := hB; exact (q_move (v := v) rfl)) ?_
 refine OpsW.g rfl rfl rfl (fun hB => by simp only [Bool.and_eq_true, beq_iff_eq] at hB; obtain rfl := hB; exact (q_move (v := .int _ _) rfl)) ?_
 refine OpsW.g rfl rfl rfl (fun hB => by simp only [Bool.and_eq_true, beq_iff_eq] at hB; obtain rfl := hB; (try simp only [Bool.true_eq, Bool.false_eq, decide_eq_true_eq, Bool.and_eq_true, Bool.or_eq_true, Bool.or_eq_false_iff, Bool.not_eq_true', decide_eq_false_iff_not, Int.not_lt, Int.not_le] at eb15); exact (q_indexV1 (hSl0.vec at0) Tryz.underlying104 (by kernel_rfl) rfl rfl (by omega) (by omega))) ?_
 refine OpsW.g rfl rfl rfl (fun hB => by simp only [Bool.and_eq_true, beq_iff_eq] at hB; obtain rfl := hB; (try simp only [Bool.true_eq, Bool.false_eq, decide_eq_true_eq, Bool.and_eq_true, Bool.or_eq_true, Bool.or_eq_false_iff, Bool.not_eq_true', decide_eq_false_iff_not, Int.not_lt, Int.not_le] at eb15); exact (q_loadVN (hSl0.vec at0) (by kernel_rfl) rfl (by omega))) ?_
 refine OpsW.g rfl rfl rfl (fun hB => by simp only [Bool.and_eq_true, beq_iff_eq] at hB; obtain rfl := hB; exact (q_eql rfl rfl)) ?_
 refine OpsW.q rfl (q_and2 rfl rfl rfl) ?_
 refine OpsW.q rfl (q_assign (v := .bool _) rfl) ?_
 refine OpsW.nil ?_
 refine BlockP.go ?_
 refine SeqP.go ?_
 refine AW.region ?_
 refine OpsW.q rfl (q_move (v := .int _ _) rfl) ?_
 refine OpsW.q rfl (q_addI rfl rfl (by omega)) ?_
 refine OpsW.q rfl (q_assign (v := .int _ _) rfl) ?_
 refine OpsW.nil ?_
 exact LoopP.go _ (by omega) ⟨k + 1, _, rfl, (by omega), Slots.eq ⟨(by rfl), (by rw [grK_succ, ← eb15]; show Value.bool _ = Value.bool _; congr 2), (by rfl),  trivial⟩, hSl0⟩
theorem tagR_con (key data : List UInt8) (hd : data.length ≤ 1099511627776) : Con Tryz.prog w0 39 #[S key, S data] H (fun v H' => v = .tuple #[S (tagP key data).1, .int .i64 (tagP key data).2] ∧ H' = H) := by
 have hS0 : Sep H [] H := Sep.refl
 refine Con.intro Tryz.func39 rfl rfl ?_
 refine AW.seq ?_
 refine AW.region ?_
 refine OpsW.q rfl (q_assign (v := S _) rfl) ?_
 refine OpsW.q rfl (q_assign (v := .int _ _) rfl) ?_
 refine OpsW.nil ?_
 refine SeqP.go ?_
 refine AW.seq ?_
 refine AW.seq ?_
 refine AW.region ?_
 refine OpsW.q rfl (q_move (v := S _) rfl) ?_
 refine OpsW.q rfl (q_lenS Tryz.underlying9 rfl) ?_
 refine OpsW.q rfl (q_neq rfl rfl) ?_
 refine OpsW.nil ?_
 refine SeqP.go ?_
 refine AW.cond rfl (fun h0 => ?_) (fun h0 => ?_)
 ·
  try simp only [z1, z2, z3, z4, z5, z6, z7, z8, z9, z10, z11, z12, z13, z14] at h0
  refine AW.seq ?_
  refine AW.region ?_
  refine OpsW.q rfl (q_assign (v := S _) rfl) ?_
  refine OpsW.q rfl (q_assign (v := .int _ _) rfl) ?_
  refine OpsW.nil ?_
  refine SeqP.go ?_
  refine AW.ret ?_
  refine SeqP.ret ?_
  refine RetP.mk2 (H' := H) (v1 := S _) (v2 := .int _ _) rfl rfl rfl  hS0.le ?_
  exact ⟨by rw [tagP_bad (by omega)], rfl⟩
 try simp only [z1, z2, z3, z4, z5, z6, z7, z8, z9, z10, z11, z12, z13, z14] at h0
 have hk : key.length = 32 := by omega
 have hk16 : (key.take 16).length = 16 := by rw [List.length_take, hk]; decide
 have hrV : numL (clL (key.take 16)) < 2 ^ 130 := by have := rN_lt key; unfold rN at this; exact this
 refine AW.skip ?_
 refine SeqP.go ?_
 refine AW.seq ?_
 refine AW.region ?_
 refine OpsW.q rfl (q_move (v := S _) rfl) ?_
 refine OpsW.q rfl (q_sliceS_hi Tryz.underlying9 rfl rfl (by omega) (by omega)) ?_
 refine OpsW.m rfl (s_bytes hS0 rfl Tryz.underlying35 Tryz.underlying5 rfl (by simp only [nums_length, List.length_set, List.length_replicate, List.length_take, List.length_drop, List.length_append, List.length_cons, List.length_nil, ofB_length, toB_length]; unfold maxLen; omega)) ?_
 rintro v25 H1 hS1
 clear hS0
 rw [show key.take (16 : Int).toNat = key.take 16 from rfl, hk16] at hS1
 refine OpsW.q rfl (q_assign (v := v25) rfl) ?_
 refine OpsW.nil ?_
 refine SeqP.go ?_
 refine AW.seq ?_
 refine AW.seq ?_
 refine AW.region ?_
 refine OpsW.q rfl (q_assign (v := .int _ _) rfl) ?_
 refine OpsW.nil ?_
 refine SeqP.go ?_
 refine AW.block ?_
 refine AW.loop (fun m_ e_ H_ => ∃ (j : Nat) (vb : Value) (e0 : Env), m_ = 4 - j ∧ (j ≤ 4) ∧ e_ = upds e0 [(0, S key), (1, S data), (6, vb), (7, .int .i64 ((4 * j + 3 : Nat) : Int))] ∧ Sep H [.vec vb 5 1 16 (nums .u8 (cl1 (ofB (key.take 16)) j))] H_) _ ⟨0, v25, _, rfl, (by omega), Slots.eq ⟨(by rfl), (by rfl), (by rfl), (by rfl),  trivial⟩, (by rw [cl1_zero]; exact hS1)⟩ ?_
 rintro m_ _ Hl0 ⟨j, vb, e0, rfl, hf, rfl, hSl0⟩
 try clear hS1
 have hc1 : (cl1 (ofB (key.take 16)) j).length = 16 := by rw [cl1_length, ofB_length, hk16]
 refine AW.seq ?_
 refine AW.seq ?_
 refine AW.region ?_
 refine OpsW.q rfl (q_move (v := .int _ _) rfl) ?_
 refine OpsW.q rfl (q_lss rfl rfl) ?_
 refine OpsW.nil ?_
 refine SeqP.go ?_
 refine AW.cond2 rfl (fun h1 => ?_) (fun h1 => ?_)
 ·
  try simp only [z1, z2, z3, z4, z5, z6, z7, z8, z9, z10, z11, z12, z13, z14] at h1
  refine AW.exit ?_
  refine SeqP.exit ?_
  refine LoopP.exit ?_
  obtain rfl : j = 4 := by omega
  refine BlockP.here ?_
  refine SeqP.go ?_
  refine AW.seq ?_
  refine AW.seq ?_
  refine AW.region ?_
  refine OpsW.q rfl (q_assign (v := .int _ _) rfl) ?_
  refine OpsW.nil ?_
  refine SeqP.go ?_
  refine AW.block ?_
  refine AW.loop (fun m_ e_ H_ => ∃ (j : Nat) (vb : Value) (e0 : Env), m_ = 3 - j ∧ (j ≤ 3) ∧ e_ = upds e0 [(0, S key), (1, S data), (6, vb), (8, .int .i64 ((4 * j + 4 : Nat) : Int))] ∧ Sep H [.vec vb 5 1 16 (nums .u8 (cl2 (cl1 (ofB (key.take 16)) 4) j))] H_) _ ⟨0, vb, _, rfl, (by omega), Slots.eq ⟨(by rfl), (by rfl), (by rfl), (by rfl),  trivial⟩, (by rw [cl2_zero]; exact hSl0)⟩ ?_
  rintro m_ _ Hl1 ⟨j, vb, e0, rfl, hf, rfl, hSl1⟩
  try clear hSl0
  have hc2 : (cl2 (cl1 (ofB (key.take 16)) 4) j).length = 16 := by rw [cl2_length, cl1_length, ofB_length, hk16]
  refine AW.seq ?_
  refine AW.seq ?_
  refine AW.region ?_
  refine OpsW.q rfl (q_move (v := .int _ _) rfl) ?_
  refine OpsW.q rfl (q_lss rfl rfl) ?_
  refine OpsW.nil ?_
  refine SeqP.go ?_
  refine AW.cond2 rfl (fun h2 => ?_) (fun h2 => ?_)
  ·
   try simp only [z1, z2, z3, z4, z5, z6, z7, z8, z9, z10, z11, z12, z13, z14] at h2
   refine AW.exit ?_
   refine SeqP.exit ?_
   refine LoopP.exit ?_
   obtain rfl : j = 3 := by omega
   refine BlockP.here ?_
   refine SeqP.go ?_
   refine AW.seq ?_
   refine AW.region ?_
   refine OpsW.q rfl (q_move (v := vb) rfl) ?_
   refine OpsW.q rfl (q_stringVec (hSl1.vec at0) Tryz.underlying35 Tryz.underlying5 Tryz.underlying9 rfl) ?_
   rw [cl_eq hk16]
   refine OpsW.m rfl (o_call rfl Tryz.func68 rfl rfl (digitsR_con _ (by rw [clL_length]; decide) hrV)) ?_
   rintro v52 H2 hR2
   have hS2 := hSl1.join hR2
   simp only [List.cons_append, List.nil_append] at hS2
   clear hR2 hSl1
   rw [show numL (clL (key.take 16)) = rN key from by unfold rN; rfl] at hS2
   have hgr := grps_length 13 10 130 (rN key)
   refine OpsW.q rfl (q_assign (v := v52) rfl) ?_
   refine OpsW.nil ?_
   refine SeqP.go ?_
   refine AW.seq ?_
   refine AW.region ?_
   refine OpsW.m rfl (s_makeSliceN (kk := .i64) (by_ := 8) hS2 Tryz.underlying104 (by kernel_rfl) (by kernel_rfl) (by kernel_rfl) rfl rfl (by omega) (by omega) (by omega) (by omega) (by unfold maxLen; omega)) ?_
   rintro v53 H3 hS3
   clear hS2
   refine OpsW.q rfl (q_assign (v := v53) rfl) ?_
   refine OpsW.nil ?_
   refine SeqP.go ?_
   refine AW.seq ?_
   refine AW.block ?_
   replace hS3 := hS3.del del2
   refine AW.loop (fun m_ e_ H_ => ∃ (j : Nat) (va : Value) (e0 : Env), m_ = data.length + 16 - 16 * j ∧ (16 * j < data.length + 16) ∧ e_ = upds e0 [(0, S key), (1, S (data.drop (16 * j))), (9, v52), (10, va)] ∧ Sep H [.vec va 3 1 10 (nums .i64 (bP key data j)), .vec v52 3 1 10 (nums .i64 (grps 13 10 130 (rN key)))] H_) _ ⟨0, v53, _, rfl, (by omega), Slots.eq ⟨(by rfl), (by rfl), (by rfl), (by rfl),  trivial⟩, (by rw [bP_zero]; exact hS3)⟩ ?_
   rintro m_ _ Hl2 ⟨j, va, e0, rfl, hf, rfl, hSl2⟩
   try clear hS3
   have hbl := bP_length key data j
   have hdl : (data.drop (16 * j)).length = data.length - 16 * j := List.length_drop
   refine AW.seq ?_
   refine AW.seq ?_
   refine AW.region ?_
   refine OpsW.q rfl (q_move (v := S _) rfl) ?_
   refine OpsW.q rfl (q_lenS Tryz.underlying9 rfl) ?_
   refine OpsW.q rfl (q_gtr rfl rfl) ?_
   refine OpsW.nil ?_
   refine SeqP.go ?_
   refine AW.cond2 rfl (fun h3 => ?_) (fun h3 => ?_)
   ·
    try simp only [z1, z2, z3, z4, z5, z6, z7, z8, z9, z10, z11, z12, z13, z14] at h3
    refine AW.exit ?_
    refine SeqP.exit ?_
    refine LoopP.exit ?_
    obtain rfl : j = (data.length + 15) / 16 := by omega
    refine BlockP.here ?_
    refine SeqP.go ?_
    refine AW.seq ?_
    refine AW.region ?_
    refine OpsW.q rfl (q_move (v := va) rfl) ?_
    obtain ⟨Hf4, le4, hA4, hB4⟩ := hSl2.framed at0
    refine OpsW.m rfl (o_call rfl Tryz.func70 rfl rfl (carriedR_con hA4 hbl)) ?_
    rintro _ H4 ⟨rfl, hR4⟩
    have hS4 := hB4 _ _ hR4
    clear hR4 hB4 hA4
    clear hSl2
    obtain ⟨Hf5, le5, hA5, hB5⟩ := hS4.framed at0
    refine OpsW.m rfl (o_call rfl Tryz.func71 rfl rfl (restR_con hA5 (by rw [carT_length, hbl]))) ?_
    rintro v90 H5 hR5
    have hS5 := hB5 _ _ hR5
    clear hR5 hB5 hA5
    clear hS4
    rw [bP_fin] at hS5
    have hga := grps_length 13 10 130 (accT key data)
    refine OpsW.q rfl (q_assign (v := v90) rfl) ?_
    refine OpsW.nil ?_
    refine SeqP.go ?_
    refine AW.seq ?_
    refine AW.region ?_
    refine OpsW.q rfl (q_assign (v := .slice _ _ _) rfl) ?_
    refine OpsW.nil ?_
    refine SeqP.go ?_
    refine AW.seq ?_
    refine AW.region ?_
    refine OpsW.q rfl (q_assign (v := .int _ _) rfl) ?_
    refine OpsW.nil ?_
    refine SeqP.go ?_
    refine AW.seq ?_
    refine AW.seq ?_
    refine AW.region ?_
    refine OpsW.q rfl (q_assign (v := .int _ _) rfl) ?_
    refine OpsW.nil ?_
    refine SeqP.go ?_
    refine AW.block ?_
    replace hS5 := hS5.nil (el := 5) (sz := 1)
    replace hS5 := hS5.del del2
    refine AW.loop (fun m_ e_ H_ => ∃ (i : Nat) (vo : Value) (e0 : Env), m_ = 16 - i ∧ (i ≤ 16) ∧ e_ = upds e0 [(0, S key), (10, v90), (14, vo), (15, .int .i64 ((cyK (accT key data) (numL (key.drop 16)) i : Nat) : Int)), (16, .int .i64 (i : Int))] ∧ Sep H [.vec vo 5 1 i (nums .u8 (tagL (accT key data + numL (key.drop 16)) i)), .vec v90 3 1 10 (nums .i64 (grps 13 10 130 (accT key data)))] H_) _ ⟨0, nilV, _, rfl, (by omega), Slots.eq ⟨(by rfl), (by rfl), (by rfl), (by rw [cyK_zero]; rfl), (by rfl),  trivial⟩, (by rw [tagL_zero]; exact hS5)⟩ ?_
    rintro m_ _ Hl4 ⟨i, vo, e0, rfl, hf, rfl, hSl4⟩
    try clear hS5
    have hcl := cyK_le (accT key data) (numL (key.drop 16)) i
    have htl := tagL_length (accT key data + numL (key.drop 16)) i
    refine AW.seq ?_
    refine AW.seq ?_
    refine AW.region ?_
    refine OpsW.q rfl (q_move (v := .int _ _) rfl) ?_
    refine OpsW.q rfl (q_lss rfl rfl) ?_
    refine OpsW.nil ?_
    refine SeqP.go ?_
    refine AW.cond2 rfl (fun h5 => ?_) (fun h5 => ?_)
    ·
     try simp only [z1, z2, z3, z4, z5, z6, z7, z8, z9, z10, z11, z12, z13, z14] at h5
     refine AW.exit ?_
     refine SeqP.exit ?_
     refine LoopP.exit ?_
     obtain rfl : i = 16 := by omega
     refine BlockP.here ?_
     refine SeqP.go ?_
     refine AW.seq ?_
     refine AW.region ?_
     refine OpsW.q rfl (q_move (v := vo) rfl) ?_
     refine OpsW.q rfl (q_stringVec (hSl4.vec at0) Tryz.underlying35 Tryz.underlying5 Tryz.underlying9 rfl) ?_
     refine OpsW.q rfl (q_assign (v := S _) rfl) ?_
     refine OpsW.q rfl (q_assign (v := .int _ _) rfl) ?_
     refine OpsW.nil ?_
     refine SeqP.go ?_
     refine AW.ret ?_
     refine RetP.mk2 (H' := H) (v1 := S _) (v2 := .int _ _) rfl rfl rfl  hSl4.le ?_
     refine ⟨?_, rfl⟩
     rw [tagP_ok hk]
     rfl
    try simp only [z1, z2, z3, z4, z5, z6, z7, z8, z9, z10, z11, z12, z13, z14] at h5
    refine AW.skip ?_
    refine SeqP.go ?_
    refine AW.seq ?_
    refine AW.block ?_
    refine AW.seq ?_
    refine AW.region ?_
    refine OpsW.q rfl (q_assign (v := .int _ _) rfl) ?_
    refine OpsW.nil ?_
    refine SeqP.go ?_
    refine AW.seq ?_
    refine AW.seq ?_
    refine AW.region ?_
    refine OpsW.q rfl (q_assign (v := .int _ _) rfl) ?_
    refine OpsW.nil ?_
    refine SeqP.go ?_
    refine AW.block ?_
    refine AW.loop (fun m_ e_ H_ => ∃ (k : Nat) (e0 : Env), m_ = 8 - k ∧ (k ≤ 8) ∧ e_ = upds e0 [(0, S key), (10, v90), (14, vo), (15, .int .i64 ((cyK (accT key data) (numL (key.drop 16)) i : Nat) : Int)), (16, .int .i64 (i : Int)), (17, .int .i64 ((accT key data / 256 ^ i % 2 ^ k : Nat) : Int)), (18, .int .i64 (k : Int))] ∧ Sep H [.vec vo 5 1 i (nums .u8 (tagL (accT key data + numL (key.drop 16)) i)), .vec v90 3 1 10 (nums .i64 (grps 13 10 130 (accT key data)))] H_) _ ⟨0, _, rfl, (by omega), Slots.eq ⟨(by rfl), (by rfl), (by rfl), (by rfl), (by rfl), (by rw [Nat.pow_zero, Nat.mod_one]; rfl), (by rfl),  trivial⟩, hSl4⟩ ?_
    rintro m_ _ Hl5 ⟨k, e0, rfl, hf, rfl, hSl5⟩
    try clear hSl4
    refine AW.seq ?_
    refine AW.seq ?_
    refine AW.region ?_
    refine OpsW.q rfl (q_move (v := .int _ _) rfl) ?_
    refine OpsW.q rfl (q_lss rfl rfl) ?_
    refine OpsW.nil ?_
    refine SeqP.go ?_
    refine AW.cond2 rfl (fun h6 => ?_) (fun h6 => ?_)
    ·
     try simp only [z1, z2, z3, z4, z5, z6, z7, z8, z9, z10, z11, z12, z13, z14] at h6
     refine AW.exit ?_
     refine SeqP.exit ?_
     refine LoopP.exit ?_
     obtain rfl : k = 8 := by omega
     rw [show accT key data / 256 ^ i % 2 ^ 8 = accT key data / 256 ^ i % 256 from rfl]
     refine BlockP.here ?_
     refine SeqP.go ?_
     refine AW.seq ?_
     refine AW.region ?_
     refine OpsW.q rfl (q_move (v := .int _ _) rfl) ?_
     refine OpsW.q rfl (q_move (v := .int _ _) rfl) ?_
     have hv1 : accT key data / 256 ^ i % 256 < 256 := Nat.mod_lt _ (by decide)
     refine OpsW.q rfl (q_addI rfl rfl (by omega)) ?_
     refine OpsW.q rfl (q_move (v := S _) rfl) ?_
     refine OpsW.q rfl (q_move (v := .int _ _) rfl) ?_
     refine OpsW.q rfl (q_addI rfl rfl (by omega)) ?_
     refine OpsW.q rfl (q_indexS Tryz.underlying9 rfl rfl (by omega) (by omega)) ?_
     rw [show bt key (16 + (i : Int)).toNat = ((numL (key.drop 16) / 256 ^ i % 256 : Nat) : Int) from by rw [← bt_num, bt_drop]; exact congrArg _ (by omega)]
     have hv2 : numL (key.drop 16) / 256 ^ i % 256 < 256 := Nat.mod_lt _ (by decide)
     have hv1 : accT key data / 256 ^ i % 256 < 256 := Nat.mod_lt _ (by decide)
     refine OpsW.q rfl (q_convI64 rfl Tryz.underlying3 rfl (by omega)) ?_
     refine OpsW.q rfl (q_addI rfl rfl (by omega)) ?_
     rw [show ((cyK (accT key data) (numL (key.drop 16)) i : Nat) : Int) + ((accT key data / 256 ^ i % 256 : Nat) : Int) + ((numL (key.drop 16) / 256 ^ i % 256 : Nat) : Int) = ((cyK (accT key data) (numL (key.drop 16)) i + accT key data / 256 ^ i % 256 + numL (key.drop 16) / 256 ^ i % 256 : Nat) : Int) from by omega]
     refine OpsW.q rfl (q_assign (v := .int _ _) rfl) ?_
     refine OpsW.nil ?_
     refine SeqP.go ?_
     refine AW.seq ?_
     refine AW.region ?_
     refine OpsW.q rfl (q_move (v := vo) rfl) ?_
     refine OpsW.q rfl (q_move (v := .int _ _) rfl) ?_
     refine OpsW.q rfl (q_remI rfl rfl (by omega)) ?_
     refine OpsW.q rfl (q_convInt rfl Tryz.underlying5 rfl) ?_
     rw [show IntKind.u8.wrap (((cyK (accT key data) (numL (key.drop 16)) i + accT key data / 256 ^ i % 256 + numL (key.drop 16) / 256 ^ i % 256 : Nat) : Int) % 256) = (((accT key data + numL (key.drop 16)) / 256 ^ i % 256 : Nat) : Int) from by rw [wrap_u8, ← cy_byte]; omega]
     refine OpsW.m rfl (s_buildSlice (z := .int .u8 0) (vs := nums .u8 [_]) hSl5 Tryz.underlying35 (by kernel_rfl) (by kernel_rfl) rfl (by rfl) (by rfl) (by decide) rfl (nums_one _ _) rfl) ?_
     rintro v129 H6 hS6
     clear hSl5
     refine OpsW.m rfl (s_append (sz := 1) (by_ := 1) (z := .int .u8 0) hS6 at1 Tryz.underlying35 (by kernel_rfl) (by kernel_rfl) (by kernel_rfl) rfl (by kernel_rfl) rfl rfl (src_vec (hS6.vec at0) (nums_one _ _)) (by unfold maxLen; omega) (by omega)) ?_
     rintro v130 H7 hS7
     clear hS6
     replace hS7 := hS7.del del0
     refine OpsW.q rfl (q_assign (v := v130) rfl) ?_
     refine OpsW.nil ?_
     refine SeqP.go ?_
     refine AW.region ?_
     refine OpsW.q rfl (q_move (v := .int _ _) rfl) ?_
     refine OpsW.q rfl (q_quoI rfl rfl (by omega)) ?_
     refine OpsW.q rfl (q_assign (v := .int _ _) rfl) ?_
     refine OpsW.nil ?_
     refine BlockP.go ?_
     refine SeqP.go ?_
     refine AW.region ?_
     refine OpsW.q rfl (q_move (v := .int _ _) rfl) ?_
     refine OpsW.q rfl (q_addI rfl rfl (by omega)) ?_
     refine OpsW.q rfl (q_assign (v := .int _ _) rfl) ?_
     refine OpsW.nil ?_
     exact LoopP.go _ (by omega) ⟨i + 1, v130, _, rfl, (by omega), Slots.eq ⟨(by rfl), (by rfl), (by rfl), (by rw [cyK_succ]; rfl), (by rfl),  trivial⟩, (by rw [tagL_succ, nums_append]; exact hS7)⟩
    try simp only [z1, z2, z3, z4, z5, z6, z7, z8, z9, z10, z11, z12, z13, z14] at h6
    refine AW.skip ?_
    refine SeqP.go ?_
    refine AW.seq ?_
    refine AW.block ?_
    refine AW.seq ?_
    refine AW.region ?_
    refine OpsW.q rfl (q_move (v := .int _ _) rfl) ?_
    refine OpsW.q rfl (q_mulI rfl rfl (by omega)) ?_
    refine OpsW.q rfl (q_move (v := .int _ _) rfl) ?_
    refine OpsW.q rfl (q_addI rfl rfl (by omega)) ?_
    rw [show (8 * (i : Int) + (k : Int)) = ((8 * i + k : Nat) : Int) from by omega]
    refine OpsW.q rfl (q_assign (v := .int _ _) rfl) ?_
    refine OpsW.nil ?_
    refine SeqP.go ?_
    refine AW.region ?_
    refine OpsW.q rfl (q_move (v := .int _ _) rfl) ?_
    refine OpsW.q rfl (q_move (v := v90) rfl) ?_
    refine OpsW.q rfl (q_move (v := .int _ _) rfl) ?_
    refine OpsW.q rfl (q_quoI rfl rfl (by omega)) ?_
    refine OpsW.q rfl (q_indexV1 (hSl5.vec at1) Tryz.underlying104 (by kernel_rfl) rfl rfl (by omega) (by omega)) ?_
    refine OpsW.q rfl (q_loadVN (hSl5.vec at1) (by kernel_rfl) rfl (by omega)) ?_
    refine OpsW.q rfl (q_move (v := .int _ _) rfl) ?_
    refine OpsW.q rfl (q_remI rfl rfl (by omega)) ?_
    refine OpsW.q rfl (q_shr rfl rfl (by omega)) ?_
    refine OpsW.q rfl (q_and rfl rfl) ?_
    refine OpsW.q rfl (q_move (v := .int _ _) rfl) ?_
    refine OpsW.q rfl (q_shl rfl rfl (by omega)) ?_
    refine OpsW.q rfl (q_or rfl rfl) ?_
    refine OpsW.q rfl (q_assign (v := .int _ _) rfl) ?_
    refine OpsW.nil ?_
    refine BlockP.go ?_
    refine SeqP.go ?_
    refine AW.region ?_
    refine OpsW.q rfl (q_move (v := .int _ _) rfl) ?_
    refine OpsW.q rfl (q_addI rfl rfl (by omega)) ?_
    refine OpsW.q rfl (q_assign (v := .int _ _) rfl) ?_
    refine OpsW.nil ?_
    exact LoopP.go _ (by omega) ⟨k + 1, _, rfl, (by omega), Slots.eq ⟨(by rfl), (by rfl), (by rfl), (by rfl), (by rfl), (by rw [← x_step (by omega) (by omega)]; rfl), (by rfl),  trivial⟩, hSl5⟩
   try simp only [z1, z2, z3, z4, z5, z6, z7, z8, z9, z10, z11, z12, z13, z14] at h3
   refine AW.skip ?_
   refine SeqP.go ?_
   refine AW.block ?_
   refine AW.seq ?_
   refine AW.region ?_
   refine OpsW.q rfl (q_move (v := S _) rfl) ?_
   refine OpsW.q rfl (q_lenS Tryz.underlying9 rfl) ?_
   refine OpsW.q rfl (q_min rfl rfl) ?_
   refine OpsW.q rfl (q_assign (v := .int _ _) rfl) ?_
   refine OpsW.nil ?_
   refine SeqP.go ?_
   refine AW.seq ?_
   refine AW.region ?_
   refine OpsW.q rfl (q_move (v := S _) rfl) ?_
   refine OpsW.q rfl (q_move (v := .int _ _) rfl) ?_
   refine OpsW.q rfl (q_sliceS_hi Tryz.underlying9 rfl rfl (by omega) (by omega)) ?_
   rw [take_min]
   refine OpsW.q rfl (q_cat rfl rfl (by simp only [nums_length, List.length_set, List.length_replicate, List.length_take, List.length_drop, List.length_append, List.length_cons, List.length_nil, ofB_length, toB_length]; omega)) ?_
   refine OpsW.m rfl (o_call rfl Tryz.func68 rfl rfl (digitsR_con _ (by rw [List.length_append]; have := List.length_take_le 16 (data.drop (16 * j)); simp only [List.length_cons, List.length_nil]; omega) (blkN_lt _))) ?_
   rintro v64 H8 hR8
   have hS8 := hSl2.join hR8
   simp only [List.cons_append, List.nil_append] at hS8
   clear hR8 hSl2
   rw [show numL ((data.drop (16 * j)).take 16 ++ [1]) = blkN (data.drop (16 * j)) from rfl] at hS8
   have hgb := grps_length 13 10 130 (blkN (data.drop (16 * j)))
   refine OpsW.q rfl (q_assign (v := v64) rfl) ?_
   refine OpsW.nil ?_
   refine SeqP.go ?_
   refine AW.seq ?_
   refine AW.seq ?_
   refine AW.region ?_
   refine OpsW.q rfl (q_assign (v := .int _ _) rfl) ?_
   refine OpsW.nil ?_
   refine SeqP.go ?_
   refine AW.block ?_
   refine AW.loop (fun m_ e_ H_ => ∃ (i : Nat) (e0 : Env), m_ = 10 - i ∧ (i ≤ 10) ∧ e_ = upds e0 [(0, S key), (1, S (data.drop (16 * j))), (9, v52), (10, va), (11, .int .i64 (min 16 ((data.drop (16 * j)).length : Int))), (12, v64), (13, .int .i64 (i : Int))] ∧ Sep H [.vec v64 3 1 10 (nums .i64 (grps 13 10 130 (blkN (data.drop (16 * j))))), .vec va 3 1 10 (nums .i64 (addK .i64 (bP key data j) (grps 13 10 130 (blkN (data.drop (16 * j)))) i)), .vec v52 3 1 10 (nums .i64 (grps 13 10 130 (rN key)))] H_) _ ⟨0, _, rfl, (by omega), Slots.eq ⟨(by rfl), (by rfl), (by rfl), (by rfl), (by rfl), (by rfl), (by rfl),  trivial⟩, (by rw [addK_zero]; exact hS8)⟩ ?_
   rintro m_ _ Hl3 ⟨i, e0, rfl, hf, rfl, hSl3⟩
   try clear hS8
   have hal : (addK .i64 (bP key data j) (grps 13 10 130 (blkN (data.drop (16 * j)))) i).length = 10 := by rw [addK_length, hbl]
   refine AW.seq ?_
   refine AW.seq ?_
   refine AW.region ?_
   refine OpsW.q rfl (q_move (v := .int _ _) rfl) ?_
   refine OpsW.q rfl (q_lss rfl rfl) ?_
   refine OpsW.nil ?_
   refine SeqP.go ?_
   refine AW.cond2 rfl (fun h4 => ?_) (fun h4 => ?_)
   ·
    try simp only [z1, z2, z3, z4, z5, z6, z7, z8, z9, z10, z11, z12, z13, z14] at h4
    refine AW.exit ?_
    refine SeqP.exit ?_
    refine LoopP.exit ?_
    obtain rfl : i = 10 := by omega
    refine BlockP.here ?_
    refine SeqP.go ?_
    refine AW.seq ?_
    refine AW.region ?_
    refine OpsW.q rfl (q_move (v := va) rfl) ?_
    obtain ⟨Hf9, le9, hA9, hB9⟩ := hSl3.framed at1
    refine OpsW.m rfl (o_call rfl Tryz.func70 rfl rfl (carriedR_con hA9 (by rw [addK_length, hbl]))) ?_
    rintro _ H9 ⟨rfl, hR9⟩
    have hS9 := hB9 _ _ hR9
    clear hR9 hB9 hA9
    clear hSl3
    refine OpsW.q rfl (q_move (v := v52) rfl) ?_
    refine OpsW.m rfl (o_call rfl Tryz.func69 rfl rfl (timesR_con (hS9.vec at1) (hS9.vec at2) (by rw [carT_length, addK_length, hbl]) (grps_length _ _ _ _))) ?_
    rintro v84 H10 hR10
    have hS10 := hS9.join hR10
    simp only [List.cons_append, List.nil_append] at hS10
    clear hR10 hS9
    refine OpsW.q rfl (q_assign (v := v84) rfl) ?_
    refine OpsW.nil ?_
    refine SeqP.go ?_
    refine AW.region ?_
    refine OpsW.q rfl (q_move (v := S _) rfl) ?_
    refine OpsW.q rfl (q_move (v := .int _ _) rfl) ?_
    refine OpsW.q rfl (q_sliceS_lo Tryz.underlying9 rfl rfl (by omega) (by omega)) ?_
    refine OpsW.q rfl (q_assign (v := S _) rfl) ?_
    refine OpsW.nil ?_
    refine BlockP.go ?_
    replace hS10 := hS10.del del1
    replace hS10 := hS10.del del1
    exact LoopP.go _ (by omega) ⟨j + 1, v84, _, rfl, (by omega), Slots.eq ⟨(by rfl), (by show S _ = S _; rw [drop_next _ _ (by omega), List.drop_drop]; congr 2), (by rfl), (by rfl),  trivial⟩, (by rw [bP_succ]; exact hS10)⟩
   try simp only [z1, z2, z3, z4, z5, z6, z7, z8, z9, z10, z11, z12, z13, z14] at h4
   refine AW.skip ?_
   refine SeqP.go ?_
   refine AW.seq ?_
   refine AW.block ?_
   refine AW.drawK [] 11 rfl (by kernel_rfl) ?_
   refine SeqK.q rfl (q_move (v := va) rfl) ?_
   refine SeqK.q rfl (q_move (v := .int _ _) rfl) ?_
   refine SeqK.q rfl (q_move (v := va) rfl) ?_
   refine SeqK.q rfl (q_move (v := .int _ _) rfl) ?_
   refine SeqK.q rfl (q_indexV1 (hSl3.vec at1) Tryz.underlying104 (by kernel_rfl) rfl rfl (by omega) (by omega)) ?_
   refine SeqK.q rfl (q_loadVN (hSl3.vec at1) (by kernel_rfl) rfl (by omega)) ?_
   refine SeqK.q rfl (q_move (v := v64) rfl) ?_
   refine SeqK.q rfl (q_move (v := .int _ _) rfl) ?_
   refine SeqK.q rfl (q_indexV1 (hSl3.vec at0) Tryz.underlying104 (by kernel_rfl) rfl rfl (by omega) (by omega)) ?_
   refine SeqK.q rfl (q_loadVN (hSl3.vec at0) (by kernel_rfl) rfl (by omega)) ?_
   refine SeqK.q rfl (q_add rfl rfl) ?_
   refine SeqK.done ?_
   refine OpsW.q rfl (q_indexV1 (hSl3.vec at1) Tryz.underlying104 (by kernel_rfl) rfl rfl (by omega) (by omega)) ?_
   refine OpsW.ms (s_storeVN hSl3 at1 (by kernel_rfl) rfl rfl (by omega)) ?_
   rintro _ H11 ⟨rfl, hS11⟩
   clear hSl3
   refine OpsW.nil ?_
   refine BlockP.go ?_
   refine SeqP.go ?_
   refine AW.region ?_
   refine OpsW.q rfl (q_move (v := .int _ _) rfl) ?_
   refine OpsW.q rfl (q_addI rfl rfl (by omega)) ?_
   refine OpsW.q rfl (q_assign (v := .int _ _) rfl) ?_
   refine OpsW.nil ?_
   exact LoopP.go _ (by omega) ⟨i + 1, _, rfl, (by omega), Slots.eq ⟨(by rfl), (by rfl), (by rfl), (by rfl), (by rfl), (by rfl), (by rfl),  trivial⟩, (by rw [addK_succ]; exact hS11)⟩
  try simp only [z1, z2, z3, z4, z5, z6, z7, z8, z9, z10, z11, z12, z13, z14] at h2
  refine AW.skip ?_
  refine SeqP.go ?_
  refine AW.seq ?_
  refine AW.block ?_
  refine AW.region ?_
  refine OpsW.q rfl (q_move (v := vb) rfl) ?_
  refine OpsW.q rfl (q_move (v := .int _ _) rfl) ?_
  refine OpsW.q rfl (q_move (v := vb) rfl) ?_
  refine OpsW.q rfl (q_move (v := .int _ _) rfl) ?_
  refine OpsW.q rfl (q_indexV1 (hSl1.vec at0) Tryz.underlying35 (by kernel_rfl) rfl rfl (by omega) (by omega)) ?_
  refine OpsW.q rfl (q_loadVN (hSl1.vec at0) (by kernel_rfl) rfl (by omega)) ?_
  refine OpsW.q rfl (q_and rfl rfl) ?_
  refine OpsW.q rfl (q_indexV1 (hSl1.vec at0) Tryz.underlying35 (by kernel_rfl) rfl rfl (by omega) (by omega)) ?_
  refine OpsW.ms (s_storeVN hSl1 at0 (by kernel_rfl) rfl rfl (by omega)) ?_
  rintro _ H12 ⟨rfl, hS12⟩
  clear hSl1
  refine OpsW.nil ?_
  refine BlockP.go ?_
  refine SeqP.go ?_
  refine AW.region ?_
  refine OpsW.q rfl (q_move (v := .int _ _) rfl) ?_
  refine OpsW.q rfl (q_addI rfl rfl (by omega)) ?_
  refine OpsW.q rfl (q_assign (v := .int _ _) rfl) ?_
  refine OpsW.nil ?_
  exact LoopP.go _ (by omega) ⟨j + 1, vb, _, rfl, (by omega), Slots.eq ⟨(by rfl), (by rfl), (by rfl), (by rfl),  trivial⟩, (by rw [cl2_succ]; exact hS12)⟩
 try simp only [z1, z2, z3, z4, z5, z6, z7, z8, z9, z10, z11, z12, z13, z14] at h1
 refine AW.skip ?_
 refine SeqP.go ?_
 refine AW.seq ?_
 refine AW.block ?_
 refine AW.region ?_
 refine OpsW.q rfl (q_move (v := vb) rfl) ?_
 refine OpsW.q rfl (q_move (v := .int _ _) rfl) ?_
 refine OpsW.q rfl (q_move (v := vb) rfl) ?_
 refine OpsW.q rfl (q_move (v := .int _ _) rfl) ?_
 refine OpsW.q rfl (q_indexV1 (hSl0.vec at0) Tryz.underlying35 (by kernel_rfl) rfl rfl (by omega) (by omega)) ?_
 refine OpsW.q rfl (q_loadVN (hSl0.vec at0) (by kernel_rfl) rfl (by omega)) ?_
 refine OpsW.q rfl (q_and rfl rfl) ?_
 refine OpsW.q rfl (q_indexV1 (hSl0.vec at0) Tryz.underlying35 (by kernel_rfl) rfl rfl (by omega) (by omega)) ?_
 refine OpsW.ms (s_storeVN hSl0 at0 (by kernel_rfl) rfl rfl (by omega)) ?_
 rintro _ H13 ⟨rfl, hS13⟩
 clear hSl0
 refine OpsW.nil ?_
 refine BlockP.go ?_
 refine SeqP.go ?_
 refine AW.region ?_
 refine OpsW.q rfl (q_move (v := .int _ _) rfl) ?_
 refine OpsW.q rfl (q_addI rfl rfl (by omega)) ?_
 refine OpsW.q rfl (q_assign (v := .int _ _) rfl) ?_
 refine OpsW.nil ?_
 exact LoopP.go _ (by omega) ⟨j + 1, vb, _, rfl, (by omega), Slots.eq ⟨(by rfl), (by rfl), (by rfl), (by rfl),  trivial⟩, (by rw [cl1_succ]; exact hS13)⟩
end
end Go.Proofs.YtfpoldogcopmpaaGreatDoor.Po
end
section
namespace Go.Proofs.YtfpoldogcopmpaaGreatDoor
open Go Go.RowKit D
set_option linter.unusedVariables false
set_option linter.unusedSimpArgs false
set_option maxRecDepth 100000
set_option maxHeartbeats 2000000
section
variable {w0 : World} {H : Hp} {H0 : Hp}
theorem Size_con (suite : Int) : Con Tryz.prog w0 18 #[.int .i64 suite] H (fun v H' => v = .int .i64 (sizeS suite) ∧ H' = H) := by
 have hS0 : Sep H [] H := Sep.refl
 refine Con.intro Tryz.func18 rfl rfl ?_
 refine AW.seq ?_
 refine AW.region ?_
 refine OpsW.q rfl (q_assign (v := .int _ _) rfl) ?_
 refine OpsW.nil ?_
 refine SeqP.go ?_
 refine AW.seq ?_
 refine AW.seq ?_
 refine AW.region ?_
 refine OpsW.q rfl (q_move (v := .int _ _) rfl) ?_
 refine OpsW.nil ?_
 refine SeqP.go ?_
 refine AW.block ?_
 refine AW.seq ?_
 refine AW.region ?_
 refine OpsW.q rfl (q_eql rfl rfl) ?_
 refine OpsW.q rfl (q_assign (v := .bool _) rfl) ?_
 refine OpsW.nil ?_
 refine SeqP.go ?_
 refine AW.cond rfl (fun h0 => ?_) (fun h0 => ?_)
 ·
  try simp only [z1, z2, z3, z4, z5, z6, z7, z8, z9, z10, z11, z12, z13, z14] at h0
  have hs : sizeS suite = 16 := by rw [h0]; exact sizeS_a
  refine AW.seq ?_
  refine AW.region ?_
  refine OpsW.q rfl (q_assign (v := .int _ _) rfl) ?_
  refine OpsW.nil ?_
  refine SeqP.go ?_
  refine AW.ret ?_
  refine BlockP.ret ?_
  refine SeqP.ret ?_
  refine RetP.mk1 (H' := H) (v1 := .int _ _) rfl rfl  hS0.le ?_
  exact ⟨by rw [hs], rfl⟩
 try simp only [z1, z2, z3, z4, z5, z6, z7, z8, z9, z10, z11, z12, z13, z14] at h0
 refine AW.seq ?_
 refine AW.region ?_
 refine OpsW.q rfl (q_eql rfl rfl) ?_
 refine OpsW.q rfl (q_assign (v := .bool _) rfl) ?_
 refine OpsW.nil ?_
 refine SeqP.go ?_
 refine AW.cond rfl (fun h1 => ?_) (fun h1 => ?_)
 ·
  try simp only [z1, z2, z3, z4, z5, z6, z7, z8, z9, z10, z11, z12, z13, z14] at h1
  have hs : sizeS suite = 32 := by rw [h1]; exact sizeS_b
  refine AW.seq ?_
  refine AW.region ?_
  refine OpsW.q rfl (q_assign (v := .int _ _) rfl) ?_
  refine OpsW.nil ?_
  refine SeqP.go ?_
  refine AW.ret ?_
  refine BlockP.ret ?_
  refine SeqP.ret ?_
  refine RetP.mk1 (H' := H) (v1 := .int _ _) rfl rfl  hS0.le ?_
  exact ⟨by rw [hs], rfl⟩
 try simp only [z1, z2, z3, z4, z5, z6, z7, z8, z9, z10, z11, z12, z13, z14] at h1
 have hs : sizeS suite = 0 := sizeS_no h0 h1
 refine AW.skip ?_
 refine BlockP.go ?_
 refine SeqP.go ?_
 refine AW.seq ?_
 refine AW.region ?_
 refine OpsW.q rfl (q_assign (v := .int _ _) rfl) ?_
 refine OpsW.nil ?_
 refine SeqP.go ?_
 refine AW.ret ?_
 refine RetP.mk1 (H' := H) (v1 := .int _ _) rfl rfl  hS0.le ?_
 exact ⟨by rw [hs], rfl⟩
theorem SizeR_con (suite : Int) : Con Tryz.prog w0 19 #[.int .i64 suite] H (fun v H' => v = .int .i64 (sizeS suite) ∧ H' = H) := by
 have hS0 : Sep H [] H := Sep.refl
 refine Con.intro Tryz.func19 rfl rfl ?_
 refine AW.seq ?_
 refine AW.region ?_
 refine OpsW.q rfl (q_assign (v := .int _ _) rfl) ?_
 refine OpsW.nil ?_
 refine SeqP.go ?_
 refine AW.seq ?_
 refine AW.seq ?_
 refine AW.region ?_
 refine OpsW.q rfl (q_move (v := .int _ _) rfl) ?_
 refine OpsW.nil ?_
 refine SeqP.go ?_
 refine AW.block ?_
 refine AW.seq ?_
 refine AW.region ?_
 refine OpsW.q rfl (q_eql rfl rfl) ?_
 refine OpsW.q rfl (q_assign (v := .bool _) rfl) ?_
 refine OpsW.nil ?_
 refine SeqP.go ?_
 refine AW.cond rfl (fun h0 => ?_) (fun h0 => ?_)
 ·
  try simp only [z1, z2, z3, z4, z5, z6, z7, z8, z9, z10, z11, z12, z13, z14] at h0
  have hs : sizeS suite = 16 := by rw [h0]; exact sizeS_a
  refine AW.seq ?_
  refine AW.region ?_
  refine OpsW.q rfl (q_assign (v := .int _ _) rfl) ?_
  refine OpsW.nil ?_
  refine SeqP.go ?_
  refine AW.ret ?_
  refine BlockP.ret ?_
  refine SeqP.ret ?_
  refine RetP.mk1 (H' := H) (v1 := .int _ _) rfl rfl  hS0.le ?_
  exact ⟨by rw [hs], rfl⟩
 try simp only [z1, z2, z3, z4, z5, z6, z7, z8, z9, z10, z11, z12, z13, z14] at h0
 refine AW.seq ?_
 refine AW.region ?_
 refine OpsW.q rfl (q_eql rfl rfl) ?_
 refine OpsW.q rfl (q_assign (v := .bool _) rfl) ?_
 refine OpsW.nil ?_
 refine SeqP.go ?_
 refine AW.cond rfl (fun h1 => ?_) (fun h1 => ?_)
 ·
  try simp only [z1, z2, z3, z4, z5, z6, z7, z8, z9, z10, z11, z12, z13, z14] at h1
  have hs : sizeS suite = 32 := by rw [h1]; exact sizeS_b
  refine AW.seq ?_
  refine AW.region ?_
  refine OpsW.q rfl (q_assign (v := .int _ _) rfl) ?_
  refine OpsW.nil ?_
  refine SeqP.go ?_
  refine AW.ret ?_
  refine BlockP.ret ?_
  refine SeqP.ret ?_
  refine RetP.mk1 (H' := H) (v1 := .int _ _) rfl rfl  hS0.le ?_
  exact ⟨by rw [hs], rfl⟩
 try simp only [z1, z2, z3, z4, z5, z6, z7, z8, z9, z10, z11, z12, z13, z14] at h1
 have hs : sizeS suite = 0 := sizeS_no h0 h1
 refine AW.skip ?_
 refine BlockP.go ?_
 refine SeqP.go ?_
 refine AW.seq ?_
 refine AW.region ?_
 refine OpsW.q rfl (q_assign (v := .int _ _) rfl) ?_
 refine OpsW.nil ?_
 refine SeqP.go ?_
 refine AW.ret ?_
 refine RetP.mk1 (H' := H) (v1 := .int _ _) rfl rfl  hS0.le ?_
 exact ⟨by rw [hs], rfl⟩
theorem sfilled_con {s : List UInt8} (hm : s.length ≤ 4294967296) : Con Tryz.prog w0 77 #[S s] H (fun v H' => v = S (flB s) ∧ H' = H) := by
 have hS0 : Sep H [] H := Sep.refl
 refine Con.intro Tryz.func77 rfl rfl ?_
 refine AW.seq ?_
 refine AW.region ?_
 refine OpsW.q rfl (q_assign (v := S _) rfl) ?_
 refine OpsW.nil ?_
 refine SeqP.go ?_
 refine AW.seq ?_
 refine AW.region ?_
 refine OpsW.q rfl (q_move (v := S _) rfl) ?_
 refine OpsW.q rfl (q_move (v := S _) rfl) ?_
 refine OpsW.q rfl (q_lenS Tryz.underlying9 rfl) ?_
 refine OpsW.q rfl (q_remI rfl rfl (by omega)) ?_
 refine OpsW.q rfl (q_subI rfl rfl (by omega)) ?_
 refine OpsW.q rfl (q_remI rfl rfl (by omega)) ?_
 refine OpsW.m rfl (s_makeSliceB (by_ := 1) hS0 Tryz.underlying35 (by kernel_rfl) (by kernel_rfl) (by kernel_rfl) rfl rfl (by omega) (by omega) (by omega) (by omega) (by unfold maxLen; omega)) ?_
 rintro v9 H1 hS1
 clear hS0
 refine OpsW.q rfl (q_stringB (hS1.vec at0) Tryz.underlying35 Tryz.underlying5 Tryz.underlying9 rfl) ?_
 refine OpsW.q rfl (q_cat rfl rfl (by simp only [nums_length, List.length_set, List.length_replicate, List.length_take, List.length_drop, List.length_append, List.length_cons, List.length_nil, ofB_length, toB_length]; omega)) ?_
 refine OpsW.q rfl (q_assign (v := S _) rfl) ?_
 refine OpsW.nil ?_
 refine SeqP.go ?_
 refine AW.ret ?_
 refine RetP.mk1 (H' := H) (v1 := S _) rfl rfl  hS1.le ?_
 refine ⟨?_, rfl⟩
 rw [flB_eq, show ((16 - (s.length : Int) % 16) % 16).toNat = (16 - s.length % 16) % 16 from by omega, zs_eq]
theorem sfilledR_con {s : List UInt8} (hm : s.length ≤ 4294967296) : Con Tryz.prog w0 40 #[S s] H (fun v H' => v = S (flB s) ∧ H' = H) := by
 have hS0 : Sep H [] H := Sep.refl
 refine Con.intro Tryz.func40 rfl rfl ?_
 refine AW.seq ?_
 refine AW.region ?_
 refine OpsW.q rfl (q_assign (v := S _) rfl) ?_
 refine OpsW.nil ?_
 refine SeqP.go ?_
 refine AW.seq ?_
 refine AW.block ?_
 refine AW.loop (fun m_ e_ H_ => ∃ (x : List UInt8) (e0 : Env), m_ = (16 - x.length % 16) % 16 ∧ (flB x = flB s) ∧ e_ = upds e0 [(0, S x)] ∧ Sep H [] H_) _ ⟨s, _, rfl, rfl, Slots.eq ⟨(by rfl),  trivial⟩, hS0⟩ ?_
 rintro m_ _ Hl0 ⟨x, e0, rfl, hx, rfl, hSl0⟩
 try clear hS0
 have l1 := flB_eqn x
 have l2 := flB_eqn s
 rw [hx] at l1
 refine AW.seq ?_
 refine AW.seq ?_
 refine AW.region ?_
 refine OpsW.q rfl (q_move (v := S _) rfl) ?_
 refine OpsW.q rfl (q_lenS Tryz.underlying9 rfl) ?_
 refine OpsW.q rfl (q_remI rfl rfl (by omega)) ?_
 refine OpsW.q rfl (q_neq rfl rfl) ?_
 refine OpsW.nil ?_
 refine SeqP.go ?_
 refine AW.cond2 rfl (fun h0 => ?_) (fun h0 => ?_)
 ·
  try simp only [z1, z2, z3, z4, z5, z6, z7, z8, z9, z10, z11, z12, z13, z14] at h0
  refine AW.exit ?_
  refine SeqP.exit ?_
  refine LoopP.exit ?_
  have hx8 : flB s = x := by rw [← hx]; exact fl_none' (by omega)
  refine BlockP.here ?_
  refine SeqP.go ?_
  refine AW.seq ?_
  refine AW.region ?_
  refine OpsW.q rfl (q_move (v := S _) rfl) ?_
  refine OpsW.q rfl (q_assign (v := S _) rfl) ?_
  refine OpsW.nil ?_
  refine SeqP.go ?_
  refine AW.ret ?_
  refine RetP.mk1 (H' := H) (v1 := S _) rfl rfl  hSl0.le ?_
  exact ⟨by rw [hx8], rfl⟩
 try simp only [z1, z2, z3, z4, z5, z6, z7, z8, z9, z10, z11, z12, z13, z14] at h0
 have hx9 : ¬ x.length % 16 = 0 := by omega
 refine AW.skip ?_
 refine SeqP.go ?_
 refine AW.block ?_
 refine AW.region ?_
 refine OpsW.q rfl (q_move (v := S _) rfl) ?_
 refine OpsW.q rfl (q_cat rfl rfl (by simp only [nums_length, List.length_set, List.length_replicate, List.length_take, List.length_drop, List.length_append, List.length_cons, List.length_nil, ofB_length, toB_length]; omega)) ?_
 refine OpsW.q rfl (q_assign (v := S _) rfl) ?_
 refine OpsW.nil ?_
 refine BlockP.go ?_
 exact LoopP.go _ (by rw [List.length_append, List.length_singleton]; omega) ⟨x ++ [0], _, rfl, (by rw [fl_more' hx9]; exact hx), Slots.eq ⟨(by rfl),  trivial⟩, hSl0⟩
theorem Nonce_con {iv : List UInt8} {n : Int} (hn1 : n ≤ 9223372036854775807) : Con Tryz.prog w0 42 #[S iv, .int .i64 n] H (fun v H' => v = .tuple #[S (nonceP iv n).1, .int .i64 (nonceP iv n).2] ∧ H' = H) := by
 have hS0 : Sep H [] H := Sep.refl
 refine Con.intro Tryz.func42 rfl rfl ?_
 refine AW.seq ?_
 refine AW.region ?_
 refine OpsW.q rfl (q_assign (v := S _) rfl) ?_
 refine OpsW.q rfl (q_assign (v := .int _ _) rfl) ?_
 refine OpsW.nil ?_
 refine SeqP.go ?_
 refine AW.seq ?_
 refine AW.block ?_
 refine AW.seq ?_
 refine AW.region ?_
 refine OpsW.q rfl (q_move (v := S _) rfl) ?_
 refine OpsW.q rfl (q_lenS Tryz.underlying9 rfl) ?_
 refine OpsW.q rfl (q_neq rfl rfl) ?_
 refine OpsW.q rfl (q_assign (v := .bool _) rfl) ?_
 refine OpsW.nil ?_
 refine SeqP.go ?_
 refine AW.cond rfl (fun h0 => ?_) (fun h0 => ?_)
 ·
  try simp only [z1, z2, z3, z4, z5, z6, z7, z8, z9, z10, z11, z12, z13, z14] at h0
  rw [nonceP_key n (by omega)]
  refine AW.seq ?_
  refine AW.region ?_
  refine OpsW.q rfl (q_assign (v := S _) rfl) ?_
  refine OpsW.q rfl (q_assign (v := .int _ _) rfl) ?_
  refine OpsW.nil ?_
  refine SeqP.go ?_
  refine AW.ret ?_
  refine BlockP.ret ?_
  refine SeqP.ret ?_
  refine RetP.mk2 (H' := H) (v1 := S _) (v2 := .int _ _) rfl rfl rfl  hS0.le ?_
  exact ⟨rfl, rfl⟩
 try simp only [z1, z2, z3, z4, z5, z6, z7, z8, z9, z10, z11, z12, z13, z14] at h0
 have hiv : iv.length = 12 := by omega
 refine AW.seq ?_
 refine AW.region ?_
 refine OpsW.q rfl (q_move (v := .int _ _) rfl) ?_
 refine OpsW.q rfl (q_lss rfl rfl) ?_
 refine OpsW.q rfl (q_assign (v := .bool _) rfl) ?_
 refine OpsW.nil ?_
 refine SeqP.go ?_
 refine AW.cond rfl (fun h1 => ?_) (fun h1 => ?_)
 ·
  try simp only [z1, z2, z3, z4, z5, z6, z7, z8, z9, z10, z11, z12, z13, z14] at h1
  rw [nonceP_arg hiv h1]
  refine AW.seq ?_
  refine AW.region ?_
  refine OpsW.q rfl (q_assign (v := S _) rfl) ?_
  refine OpsW.q rfl (q_assign (v := .int _ _) rfl) ?_
  refine OpsW.nil ?_
  refine SeqP.go ?_
  refine AW.ret ?_
  refine BlockP.ret ?_
  refine SeqP.ret ?_
  refine RetP.mk2 (H' := H) (v1 := S _) (v2 := .int _ _) rfl rfl rfl  hS0.le ?_
  exact ⟨rfl, rfl⟩
 try simp only [z1, z2, z3, z4, z5, z6, z7, z8, z9, z10, z11, z12, z13, z14] at h1
 have hn0 : ¬ n < 0 := by omega
 refine AW.skip ?_
 refine BlockP.go ?_
 refine SeqP.go ?_
 refine AW.seq ?_
 refine AW.region ?_
 refine OpsW.q rfl (q_move (v := S _) rfl) ?_
 refine OpsW.m rfl (s_bytes hS0 rfl Tryz.underlying35 Tryz.underlying5 rfl (by unfold maxLen; omega)) ?_
 rintro v16 H1 hS1
 clear hS0
 refine OpsW.q rfl (q_assign (v := v16) rfl) ?_
 refine OpsW.nil ?_
 refine SeqP.go ?_
 refine AW.seq ?_
 refine AW.seq ?_
 refine AW.region ?_
 refine OpsW.q rfl (q_move (v := v16) rfl) ?_
 refine OpsW.q rfl (q_lenVec Tryz.underlying35 rfl (hS1.vec at0)) ?_
 refine OpsW.q rfl (q_subI rfl rfl (by omega)) ?_
 refine OpsW.q rfl (q_assign (v := .int _ _) rfl) ?_
 refine OpsW.nil ?_
 refine SeqP.go ?_
 refine AW.block ?_
 refine AW.loop (fun m_ e_ H_ => ∃ (j : Nat) (vb : Value) (e0 : Env), m_ = 8 - j ∧ (j ≤ 8) ∧ e_ = upds e0 [(1, .int .i64 (n / 256 ^ j)), (6, vb), (7, .int .i64 ((11 : Int) - (j : Int)))] ∧ Sep H [.vec vb 5 1 iv.length (nums .u8 (ofB (nbK iv n j)))] H_) _ ⟨0, v16, _, rfl, (by omega), Slots.eq ⟨(by show Value.int .i64 _ = Value.int .i64 _; rw [Int.pow_zero, Int.ediv_one]), (by rfl), (by show Value.int .i64 _ = Value.int .i64 _; exact congrArg _ (by omega)),  trivial⟩, (by rw [nbK_zero']; exact hS1)⟩ ?_
 rintro m_ _ Hl0 ⟨j, vb, e0, rfl, hf, rfl, hSl0⟩
 try clear hS1
 have hnl := nbK_length iv n j
 refine AW.seq ?_
 refine AW.seq ?_
 refine AW.region ?_
 refine OpsW.q rfl (q_move (v := .int _ _) rfl) ?_
 refine OpsW.q rfl (q_gtr rfl rfl) ?_
 refine OpsW.nil ?_
 refine SeqP.go ?_
 refine AW.cond2 rfl (fun h2 => ?_) (fun h2 => ?_)
 ·
  try simp only [z1, z2, z3, z4, z5, z6, z7, z8, z9, z10, z11, z12, z13, z14] at h2
  refine AW.exit ?_
  refine SeqP.exit ?_
  refine LoopP.exit ?_
  have hst := nbK_stop iv (by omega) h2 hiv (8 - j) (by omega)
  rw [show j + (8 - j) = 8 from by omega] at hst
  refine BlockP.here ?_
  refine SeqP.go ?_
  refine AW.seq ?_
  refine AW.region ?_
  refine OpsW.q rfl (q_move (v := vb) rfl) ?_
  refine OpsW.q rfl (q_stringB (hSl0.vec at0) Tryz.underlying35 Tryz.underlying5 Tryz.underlying9 rfl) ?_
  refine OpsW.q rfl (q_assign (v := S _) rfl) ?_
  refine OpsW.q rfl (q_assign (v := .int _ _) rfl) ?_
  refine OpsW.nil ?_
  refine SeqP.go ?_
  refine AW.ret ?_
  refine RetP.mk2 (H' := H) (v1 := S _) (v2 := .int _ _) rfl rfl rfl  hSl0.le ?_
  rw [nonceP_ok hiv hn0, nonceB_def, hst]
  exact ⟨rfl, rfl⟩
 try simp only [z1, z2, z3, z4, z5, z6, z7, z8, z9, z10, z11, z12, z13, z14] at h2
 have hj8 := nq_lt (by omega) hn1 hf h2
 refine AW.skip ?_
 refine SeqP.go ?_
 refine AW.seq ?_
 refine AW.block ?_
 refine AW.seq ?_
 refine AW.region ?_
 refine OpsW.q rfl (q_move (v := vb) rfl) ?_
 refine OpsW.q rfl (q_move (v := .int _ _) rfl) ?_
 refine OpsW.q rfl (q_indexV1 (hSl0.vec at0) Tryz.underlying35 (by kernel_rfl) rfl rfl (by omega) (by omega)) ?_
 refine OpsW.q rfl (q_loadVB (hSl0.vec at0) (by kernel_rfl) rfl (by omega)) ?_
 refine OpsW.q rfl (q_move (v := .int _ _) rfl) ?_
 refine OpsW.q rfl (q_convB8 rfl Tryz.underlying5 rfl) ?_
 refine OpsW.q rfl (q_xorB rfl rfl) ?_
 refine OpsW.q rfl (q_indexV1 (hSl0.vec at0) Tryz.underlying35 (by kernel_rfl) rfl rfl (by omega) (by omega)) ?_
 refine OpsW.ms (s_storeVB hSl0 at0 (by kernel_rfl) rfl rfl (by omega)) ?_
 rintro _ H2 ⟨rfl, hS2⟩
 clear hSl0
 refine OpsW.nil ?_
 refine SeqP.go ?_
 refine AW.region ?_
 refine OpsW.q rfl (q_move (v := .int _ _) rfl) ?_
 refine OpsW.q rfl (q_shrL 8 rfl rfl (by decide) rfl) ?_
 refine OpsW.q rfl (q_assign (v := .int _ _) rfl) ?_
 refine OpsW.nil ?_
 refine BlockP.go ?_
 refine SeqP.go ?_
 refine AW.region ?_
 refine OpsW.q rfl (q_move (v := .int _ _) rfl) ?_
 refine OpsW.q rfl (q_subI rfl rfl (by omega)) ?_
 refine OpsW.q rfl (q_assign (v := .int _ _) rfl) ?_
 refine OpsW.nil ?_
 exact LoopP.go _ (by omega) ⟨j + 1, vb, _, rfl, (by omega), Slots.eq ⟨(by show Value.int .i64 _ = Value.int .i64 _; exact congrArg _ (nshift n j)), (by rfl), (by show Value.int .i64 _ = Value.int .i64 _; exact congrArg _ (by omega)),  trivial⟩, (by have hs9 := hS2; rw [show ((11 : Int) - (j : Int)).toNat = 11 - j from by omega, ← nbK_succ'] at hs9; exact hs9)⟩
theorem NonceR_con {iv : List UInt8} {n : Int} (hn1 : n ≤ 9223372036854775807) : Con Tryz.prog w0 28 #[S iv, .int .i64 n] H (fun v H' => v = .tuple #[S (nonceP iv n).1, .int .i64 (nonceP iv n).2] ∧ H' = H) := by
 have hS0 : Sep H [] H := Sep.refl
 refine Con.intro Tryz.func28 rfl rfl ?_
 refine AW.seq ?_
 refine AW.region ?_
 refine OpsW.q rfl (q_assign (v := S _) rfl) ?_
 refine OpsW.q rfl (q_assign (v := .int _ _) rfl) ?_
 refine OpsW.nil ?_
 refine SeqP.go ?_
 refine AW.seq ?_
 refine AW.seq ?_
 refine AW.region ?_
 refine OpsW.q rfl (q_move (v := S _) rfl) ?_
 refine OpsW.q rfl (q_lenS Tryz.underlying9 rfl) ?_
 refine OpsW.q rfl (q_neq rfl rfl) ?_
 refine OpsW.nil ?_
 refine SeqP.go ?_
 refine AW.cond rfl (fun h0 => ?_) (fun h0 => ?_)
 ·
  try simp only [z1, z2, z3, z4, z5, z6, z7, z8, z9, z10, z11, z12, z13, z14] at h0
  rw [nonceP_key n (by omega)]
  refine AW.seq ?_
  refine AW.region ?_
  refine OpsW.q rfl (q_assign (v := S _) rfl) ?_
  refine OpsW.q rfl (q_assign (v := .int _ _) rfl) ?_
  refine OpsW.nil ?_
  refine SeqP.go ?_
  refine AW.ret ?_
  refine SeqP.ret ?_
  refine RetP.mk2 (H' := H) (v1 := S _) (v2 := .int _ _) rfl rfl rfl  hS0.le ?_
  exact ⟨rfl, rfl⟩
 try simp only [z1, z2, z3, z4, z5, z6, z7, z8, z9, z10, z11, z12, z13, z14] at h0
 have hiv : iv.length = 12 := by omega
 refine AW.skip ?_
 refine SeqP.go ?_
 refine AW.seq ?_
 refine AW.seq ?_
 refine AW.region ?_
 refine OpsW.q rfl (q_move (v := .int _ _) rfl) ?_
 refine OpsW.q rfl (q_lss rfl rfl) ?_
 refine OpsW.nil ?_
 refine SeqP.go ?_
 refine AW.cond rfl (fun h1 => ?_) (fun h1 => ?_)
 ·
  try simp only [z1, z2, z3, z4, z5, z6, z7, z8, z9, z10, z11, z12, z13, z14] at h1
  rw [nonceP_arg hiv h1]
  refine AW.seq ?_
  refine AW.region ?_
  refine OpsW.q rfl (q_assign (v := S _) rfl) ?_
  refine OpsW.q rfl (q_assign (v := .int _ _) rfl) ?_
  refine OpsW.nil ?_
  refine SeqP.go ?_
  refine AW.ret ?_
  refine SeqP.ret ?_
  refine RetP.mk2 (H' := H) (v1 := S _) (v2 := .int _ _) rfl rfl rfl  hS0.le ?_
  exact ⟨rfl, rfl⟩
 try simp only [z1, z2, z3, z4, z5, z6, z7, z8, z9, z10, z11, z12, z13, z14] at h1
 have hn0 : ¬ n < 0 := by omega
 refine AW.skip ?_
 refine SeqP.go ?_
 refine AW.seq ?_
 refine AW.region ?_
 refine OpsW.q rfl (q_move (v := S _) rfl) ?_
 refine OpsW.m rfl (s_bytes hS0 rfl Tryz.underlying35 Tryz.underlying5 rfl (by unfold maxLen; omega)) ?_
 rintro v14 H1 hS1
 clear hS0
 refine OpsW.q rfl (q_assign (v := v14) rfl) ?_
 refine OpsW.nil ?_
 refine SeqP.go ?_
 refine AW.seq ?_
 refine AW.seq ?_
 refine AW.region ?_
 refine OpsW.q rfl (q_assign (v := .int _ _) rfl) ?_
 refine OpsW.nil ?_
 refine SeqP.go ?_
 refine AW.block ?_
 refine AW.loop (fun m_ e_ H_ => ∃ (j : Nat) (vb : Value) (e0 : Env), m_ = 8 - j ∧ (j ≤ 8) ∧ e_ = upds e0 [(1, .int .i64 n), (6, vb), (7, .int .i64 (j : Int))] ∧ Sep H [.vec vb 5 1 iv.length (nums .u8 (ofB (nbK iv n j)))] H_) _ ⟨0, v14, _, rfl, (by omega), Slots.eq ⟨(by rfl), (by rfl), (by rfl),  trivial⟩, (by rw [nbK_zero']; exact hS1)⟩ ?_
 rintro m_ _ Hl0 ⟨j, vb, e0, rfl, hf, rfl, hSl0⟩
 try clear hS1
 have hnl := nbK_length iv n j
 refine AW.seq ?_
 refine AW.seq ?_
 refine AW.region ?_
 refine OpsW.q rfl (q_move (v := .int _ _) rfl) ?_
 refine OpsW.q rfl (q_lss rfl rfl) ?_
 refine OpsW.nil ?_
 refine SeqP.go ?_
 refine AW.cond2 rfl (fun h2 => ?_) (fun h2 => ?_)
 ·
  try simp only [z1, z2, z3, z4, z5, z6, z7, z8, z9, z10, z11, z12, z13, z14] at h2
  refine AW.exit ?_
  refine SeqP.exit ?_
  refine LoopP.exit ?_
  obtain rfl : j = 8 := by omega
  refine BlockP.here ?_
  refine SeqP.go ?_
  refine AW.seq ?_
  refine AW.region ?_
  refine OpsW.q rfl (q_move (v := vb) rfl) ?_
  refine OpsW.q rfl (q_stringB (hSl0.vec at0) Tryz.underlying35 Tryz.underlying5 Tryz.underlying9 rfl) ?_
  refine OpsW.q rfl (q_assign (v := S _) rfl) ?_
  refine OpsW.q rfl (q_assign (v := .int _ _) rfl) ?_
  refine OpsW.nil ?_
  refine SeqP.go ?_
  refine AW.ret ?_
  refine RetP.mk2 (H' := H) (v1 := S _) (v2 := .int _ _) rfl rfl rfl  hSl0.le ?_
  rw [nonceP_ok hiv hn0, nonceB_def]
  exact ⟨rfl, rfl⟩
 try simp only [z1, z2, z3, z4, z5, z6, z7, z8, z9, z10, z11, z12, z13, z14] at h2
 refine AW.skip ?_
 refine SeqP.go ?_
 refine AW.seq ?_
 refine AW.block ?_
 refine AW.drawK [] 14 rfl (by kernel_rfl) ?_
 refine SeqK.q rfl (q_move (v := vb) rfl) ?_
 refine SeqK.q rfl (q_move (v := .int _ _) rfl) ?_
 refine SeqK.q rfl (q_subI rfl rfl (by omega)) ?_
 refine SeqK.q rfl (q_move (v := vb) rfl) ?_
 refine SeqK.q rfl (q_move (v := .int _ _) rfl) ?_
 refine SeqK.q rfl (q_subI rfl rfl (by omega)) ?_
 refine SeqK.q rfl (q_indexV1 (hSl0.vec at0) Tryz.underlying35 (by kernel_rfl) rfl rfl (by omega) (by omega)) ?_
 refine SeqK.q rfl (q_loadVB (hSl0.vec at0) (by kernel_rfl) rfl (by omega)) ?_
 refine SeqK.q rfl (q_move (v := .int _ _) rfl) ?_
 refine SeqK.q rfl (q_move (v := .int _ _) rfl) ?_
 refine SeqK.q rfl (q_mulI rfl rfl (by omega)) ?_
 refine SeqK.q rfl (q_shr rfl rfl (by omega)) ?_
 refine SeqK.q rfl (q_convB8 rfl Tryz.underlying5 rfl) ?_
 rw [lle_shift n (by omega)]
 refine SeqK.q rfl (q_xorB rfl rfl) ?_
 refine SeqK.done ?_
 refine OpsW.q rfl (q_indexV1 (hSl0.vec at0) Tryz.underlying35 (by kernel_rfl) rfl rfl (by omega) (by omega)) ?_
 refine OpsW.ms (s_storeVB hSl0 at0 (by kernel_rfl) rfl rfl (by omega)) ?_
 rintro _ H2 ⟨rfl, hS2⟩
 clear hSl0
 refine OpsW.nil ?_
 refine BlockP.go ?_
 refine SeqP.go ?_
 refine AW.region ?_
 refine OpsW.q rfl (q_move (v := .int _ _) rfl) ?_
 refine OpsW.q rfl (q_addI rfl rfl (by omega)) ?_
 refine OpsW.q rfl (q_assign (v := .int _ _) rfl) ?_
 refine OpsW.nil ?_
 exact LoopP.go _ (by omega) ⟨j + 1, vb, _, rfl, (by omega), Slots.eq ⟨(by rfl), (by rfl), (by rfl),  trivial⟩, (by have hs9 := hS2; rw [show ((11 : Int) - (j : Int)).toNat = 11 - j from by omega, ← nbK_succ'] at hs9; exact hs9)⟩
theorem slong_con {s : List UInt8} : Con Tryz.prog w0 78 #[S s] H (fun v H' => v = S (lleB s.length 8) ∧ H' = H) := by
 have hS0 : Sep H [] H := Sep.refl
 refine Con.intro Tryz.func78 rfl rfl ?_
 refine AW.seq ?_
 refine AW.region ?_
 refine OpsW.q rfl (q_assign (v := S _) rfl) ?_
 refine OpsW.nil ?_
 refine SeqP.go ?_
 refine AW.seq ?_
 refine AW.region ?_
 refine OpsW.m rfl (s_allocB 8 hS0 (by kernel_rfl)) ?_
 rintro _ H1 ⟨b3, rfl, hS1⟩
 clear hS0
 refine OpsW.nil ?_
 refine SeqP.go ?_
 refine AW.seq ?_
 refine AW.seq ?_
 refine AW.region ?_
 refine OpsW.q rfl (q_move (v := .int _ _) rfl) ?_
 refine OpsW.nil ?_
 refine SeqP.go ?_
 refine AW.block ?_
 refine AW.loop (fun m_ e_ H_ => ∃ (i : Nat) (e0 : Env), m_ = 8 - i ∧ (i ≤ 8) ∧ e_ = upds e0 [(0, S s), (3, .pointer (some ⟨b3, 0, none⟩)), (5, .int .i64 (i : Int))] ∧ Sep H [.blk b3 ⟨nums .u8 ((ofB (lleB s.length i ++ zs (8 - i)))), 8, 146⟩] H_) _ ⟨0, _, rfl, (by omega), Slots.eq ⟨(by rfl), (by rfl), (by rfl),  trivial⟩, (by rw [lleB_zero', zs_eq]; exact hS1)⟩ ?_
 rintro m_ _ Hl0 ⟨i, e0, rfl, hf, rfl, hSl0⟩
 try clear hS1
 have hll := lleB_length s.length i
 have hzl : (zs (8 - i)).length = 8 - i := by rw [zs_eq, List.length_replicate]
 refine AW.seq ?_
 refine AW.region ?_
 refine OpsW.q rfl (q_lss rfl rfl) ?_
 refine OpsW.nil ?_
 refine SeqP.go ?_
 refine AW.seq ?_
 refine AW.cond2 rfl (fun h0 => ?_) (fun h0 => ?_)
 ·
  try simp only [z1, z2, z3, z4, z5, z6, z7, z8, z9, z10, z11, z12, z13, z14] at h0
  refine AW.exit ?_
  refine SeqP.exit ?_
  refine LoopP.exit ?_
  obtain rfl : i = 8 := by omega
  refine BlockP.here ?_
  refine SeqP.go ?_
  refine AW.seq ?_
  refine AW.region ?_
  refine OpsW.q rfl (q_sliceArr_all (sz := 1) Tryz.underlying146 (by kernel_rfl) rfl ) ?_
  refine OpsW.q rfl (q_stringB0 Tryz.underlying35 Tryz.underlying5 Tryz.underlying9 rfl (hSl0.blk at0) (by simp only [nums_length, List.length_set, List.length_replicate, List.length_take, List.length_drop, List.length_append, List.length_cons, List.length_nil, ofB_length, toB_length]; omega)) ?_
  refine OpsW.q rfl (q_assign (v := S _) rfl) ?_
  refine OpsW.nil ?_
  refine SeqP.go ?_
  refine AW.ret ?_
  refine RetP.mk1 (H' := H) (v1 := S _) rfl rfl  hSl0.le ?_
  exact ⟨by rw [zs_eq, show 8 - 8 = 0 from rfl, List.replicate_zero, List.append_nil, List.take_of_length_le (by rw [lleB_length]; exact Nat.le_refl _)], rfl⟩
 try simp only [z1, z2, z3, z4, z5, z6, z7, z8, z9, z10, z11, z12, z13, z14] at h0
 refine AW.skip ?_
 refine SeqP.go ?_
 refine AW.seq ?_
 refine AW.block ?_
 refine AW.seq ?_
 refine AW.region ?_
 refine OpsW.q rfl (q_move (v := .int _ _) rfl) ?_
 refine OpsW.q rfl (q_assign (v := .int _ _) rfl) ?_
 refine OpsW.nil ?_
 refine SeqP.go ?_
 refine AW.region ?_
 refine OpsW.q rfl (q_move (v := .int _ _) rfl) ?_
 refine OpsW.q rfl (q_move (v := S _) rfl) ?_
 refine OpsW.q rfl (q_lenS Tryz.underlying9 rfl) ?_
 refine OpsW.q rfl (q_move (v := .int _ _) rfl) ?_
 refine OpsW.q rfl (q_mulI rfl rfl (by omega)) ?_
 refine OpsW.q rfl (q_shr rfl rfl (by omega)) ?_
 refine OpsW.q rfl (q_convB8 rfl Tryz.underlying5 rfl) ?_
 rw [lle_shift _ (by omega)]
 refine OpsW.q rfl (q_indexAddrA0 Tryz.underlying146 (by kernel_rfl) rfl rfl (by omega) (by omega)) ?_
 refine OpsW.ms (s_storeB hSl0 at0 (by kernel_rfl) rfl rfl (by simp only [nums_length, List.length_set, List.length_replicate, List.length_take, List.length_drop, List.length_append, List.length_cons, List.length_nil, ofB_length, toB_length]; omega)) ?_
 rintro _ H2 ⟨rfl, hS2⟩
 clear hSl0
 refine OpsW.nil ?_
 refine BlockP.go ?_
 refine SeqP.go ?_
 refine AW.region ?_
 refine OpsW.q rfl (q_addI rfl rfl (by omega)) ?_
 refine OpsW.q rfl (q_move (v := .int _ _) rfl) ?_
 refine OpsW.nil ?_
 exact LoopP.go _ (by omega) ⟨i + 1, _, rfl, (by omega), Slots.eq ⟨(by rfl), (by rfl), (by rfl),  trivial⟩, (by have hs9 := hS2; rw [Int.toNat_natCast, lle_set _ (by omega)] at hs9; exact hs9)⟩
theorem slongR_con {n : Nat} (hm : n ≤ 4294967296) : Con Tryz.prog w0 41 #[.int .i64 (n : Int)] H (fun v H' => v = S (lleB n 8) ∧ H' = H) := by
 have hS0 : Sep H [] H := Sep.refl
 refine Con.intro Tryz.func41 rfl rfl ?_
 refine AW.seq ?_
 refine AW.region ?_
 refine OpsW.q rfl (q_assign (v := S _) rfl) ?_
 refine OpsW.nil ?_
 refine SeqP.go ?_
 refine AW.seq ?_
 refine AW.region ?_
 refine OpsW.q rfl (q_assign (v := .slice _ _ _) rfl) ?_
 refine OpsW.nil ?_
 refine SeqP.go ?_
 refine AW.seq ?_
 refine AW.seq ?_
 refine AW.region ?_
 refine OpsW.q rfl (q_assign (v := .int _ _) rfl) ?_
 refine OpsW.nil ?_
 refine SeqP.go ?_
 refine AW.block ?_
 replace hS0 := hS0.nil (el := 5) (sz := 1)
 refine AW.loop (fun m_ e_ H_ => ∃ (i : Nat) (vo : Value) (e0 : Env), m_ = 8 - i ∧ (i ≤ 8) ∧ e_ = upds e0 [(0, .int .i64 (n : Int)), (3, vo), (4, .int .i64 (i : Int))] ∧ Sep H [.vec vo 5 1 i (nums .u8 (ofB (lleB n i)))] H_) _ ⟨0, nilV, _, rfl, (by omega), Slots.eq ⟨(by rfl), (by rfl), (by rfl),  trivial⟩, (by rw [lleB_zero']; exact hS0)⟩ ?_
 rintro m_ _ Hl0 ⟨i, vo, e0, rfl, hf, rfl, hSl0⟩
 try clear hS0
 have hll := lleB_length n i
 refine AW.seq ?_
 refine AW.seq ?_
 refine AW.region ?_
 refine OpsW.q rfl (q_move (v := .int _ _) rfl) ?_
 refine OpsW.q rfl (q_lss rfl rfl) ?_
 refine OpsW.nil ?_
 refine SeqP.go ?_
 refine AW.cond2 rfl (fun h0 => ?_) (fun h0 => ?_)
 ·
  try simp only [z1, z2, z3, z4, z5, z6, z7, z8, z9, z10, z11, z12, z13, z14] at h0
  refine AW.exit ?_
  refine SeqP.exit ?_
  refine LoopP.exit ?_
  obtain rfl : i = 8 := by omega
  refine BlockP.here ?_
  refine SeqP.go ?_
  refine AW.seq ?_
  refine AW.region ?_
  refine OpsW.q rfl (q_move (v := vo) rfl) ?_
  refine OpsW.q rfl (q_stringB (hSl0.vec at0) Tryz.underlying35 Tryz.underlying5 Tryz.underlying9 rfl) ?_
  refine OpsW.q rfl (q_assign (v := S _) rfl) ?_
  refine OpsW.nil ?_
  refine SeqP.go ?_
  refine AW.ret ?_
  refine RetP.mk1 (H' := H) (v1 := S _) rfl rfl  hSl0.le ?_
  exact ⟨rfl, rfl⟩
 try simp only [z1, z2, z3, z4, z5, z6, z7, z8, z9, z10, z11, z12, z13, z14] at h0
 refine AW.skip ?_
 refine SeqP.go ?_
 refine AW.seq ?_
 refine AW.block ?_
 refine AW.region ?_
 refine OpsW.q rfl (q_move (v := vo) rfl) ?_
 refine OpsW.q rfl (q_move (v := .int _ _) rfl) ?_
 refine OpsW.q rfl (q_move (v := .int _ _) rfl) ?_
 refine OpsW.q rfl (q_mulI rfl rfl (by omega)) ?_
 refine OpsW.q rfl (q_shr rfl rfl (by omega)) ?_
 refine OpsW.q rfl (q_convB8 rfl Tryz.underlying5 rfl) ?_
 rw [lle_shift _ (by omega)]
 refine OpsW.m rfl (s_buildSlice (z := .int .u8 0) (vs := nums .u8 (ofB [_])) hSl0 Tryz.underlying35 (by kernel_rfl) (by kernel_rfl) rfl (by rfl) (by rfl) (by decide) rfl (nums_one _ _) rfl) ?_
 rintro v15 H1 hS1
 clear hSl0
 refine OpsW.m rfl (s_append (sz := 1) (by_ := 1) (z := .int .u8 0) hS1 at1 Tryz.underlying35 (by kernel_rfl) (by kernel_rfl) (by kernel_rfl) rfl (by kernel_rfl) rfl rfl (src_vec (hS1.vec at0) (nums_one _ _)) (by unfold maxLen; omega) (by omega)) ?_
 rintro v16 H2 hS2
 clear hS1
 rw [← nums_append, ← ofB_app] at hS2
 replace hS2 := hS2.del del0
 refine OpsW.q rfl (q_assign (v := v16) rfl) ?_
 refine OpsW.nil ?_
 refine BlockP.go ?_
 refine SeqP.go ?_
 refine AW.region ?_
 refine OpsW.q rfl (q_move (v := .int _ _) rfl) ?_
 refine OpsW.q rfl (q_addI rfl rfl (by omega)) ?_
 refine OpsW.q rfl (q_assign (v := .int _ _) rfl) ?_
 refine OpsW.nil ?_
 exact LoopP.go _ (by omega) ⟨i + 1, v16, _, rfl, (by omega), Slots.eq ⟨(by rfl), (by rfl), (by rfl),  trivial⟩, (by rw [lleB_succ]; exact hS2)⟩
theorem stag_con {key nonce b s : List UInt8} (hk : key.length = 32) (hn : nonce.length = 12) (hb : b.length ≤ 1048576) (hs : s.length ≤ 1048576) : Con Tryz.prog w0 45 #[S key, S nonce, S b, S s] H (fun v H' => v = S (sTag key nonce b s) ∧ H' = H) := by
 have hS0 : Sep H [] H := Sep.refl
 have lb := flB_length' b
 have ls := flB_length' s
 have l1 := lleB_length b.length 8
 have l2 := lleB_length s.length 8
 have l3 : (flB b ++ flB s).length = (flB b).length + (flB s).length := List.length_append
 have l4 : (flB b ++ flB s ++ lleB b.length 8).length = (flB b).length + (flB s).length + 8 := by rw [List.length_append, l3, l1]
 have l5 : (flB b ++ flB s ++ lleB b.length 8 ++ lleB s.length 8).length = (flB b).length + (flB s).length + 16 := by rw [List.length_append, l4, l2]
 have lc := ch_block hk hn
 refine Con.intro Tryz.func45 rfl rfl ?_
 refine AW.seq ?_
 refine AW.region ?_
 refine OpsW.q rfl (q_assign (v := S _) rfl) ?_
 refine OpsW.nil ?_
 refine SeqP.go ?_
 refine AW.seq ?_
 refine AW.region ?_
 refine OpsW.q rfl (q_move (v := S _) rfl) ?_
 refine OpsW.q rfl (q_move (v := S _) rfl) ?_
 refine OpsW.q rfl (o_call rfl Tryz.func75 rfl rfl (Ch.block_con _ _ _)) ?_
 refine OpsW.q rfl (q_move (v := .tuple _) rfl) ?_
 refine OpsW.q rfl (q_extract (v := S _) rfl rfl) ?_
 refine OpsW.q rfl (q_extract (v := .int _ _) rfl rfl) ?_
 refine OpsW.q rfl (q_assign (v := S _) rfl) ?_
 refine OpsW.q rfl (q_assign (v := .int _ _) rfl) ?_
 refine OpsW.nil ?_
 refine SeqP.go ?_
 refine AW.seq ?_
 refine AW.drawK [] 20 rfl (by kernel_rfl) ?_
 refine SeqK.q rfl (q_move (v := S _) rfl) ?_
 refine SeqK.q rfl (q_move (v := S _) rfl) ?_
 refine SeqK.q rfl (q_lenS Tryz.underlying9 rfl) ?_
 refine SeqK.q rfl (q_sliceS_hi Tryz.underlying9 rfl rfl (by omega) (by omega)) ?_
 rw [show ((key.length : Nat) : Int).toNat = 32 from by omega]
 refine SeqK.q rfl (q_move (v := S _) rfl) ?_
 refine SeqK.q rfl (o_call rfl Tryz.func77 rfl rfl (sfilled_con (by omega))) ?_
 refine SeqK.q rfl (q_move (v := S _) rfl) ?_
 refine SeqK.q rfl (o_call rfl Tryz.func77 rfl rfl (sfilled_con (by omega))) ?_
 refine SeqK.q rfl (q_cat rfl rfl (by omega)) ?_
 refine SeqK.q rfl (q_move (v := S _) rfl) ?_
 refine SeqK.q rfl (o_call rfl Tryz.func78 rfl rfl (slong_con)) ?_
 refine SeqK.q rfl (q_cat rfl rfl (by omega)) ?_
 refine SeqK.q rfl (q_move (v := S _) rfl) ?_
 refine SeqK.q rfl (o_call rfl Tryz.func78 rfl rfl (slong_con)) ?_
 refine SeqK.q rfl (q_cat rfl rfl (by omega)) ?_
 refine SeqK.q rfl (o_call rfl Tryz.func76 rfl rfl (Po.tag_con _ _ (by omega))) ?_
 refine SeqK.q rfl (q_move (v := .tuple _) rfl) ?_
 refine SeqK.q rfl (q_extract (v := S _) rfl rfl) ?_
 refine SeqK.q rfl (q_extract (v := .int _ _) rfl rfl) ?_
 refine SeqK.q rfl (q_assign (v := S _) rfl) ?_
 refine SeqK.done ?_
 refine OpsW.q rfl (q_assign (v := .int _ _) rfl) ?_
 refine OpsW.nil ?_
 refine SeqP.go ?_
 refine AW.seq ?_
 refine AW.region ?_
 refine OpsW.q rfl (q_move (v := S _) rfl) ?_
 refine OpsW.q rfl (q_assign (v := S _) rfl) ?_
 refine OpsW.nil ?_
 refine SeqP.go ?_
 refine AW.ret ?_
 refine RetP.mk1 (H' := H) (v1 := S _) rfl rfl  hS0.le ?_
 exact ⟨by rw [sTag_def], rfl⟩
theorem stagR_con {key nonce b s : List UInt8} (hk : key.length = 32) (hn : nonce.length = 12) (hb : b.length ≤ 1048576) (hs : s.length ≤ 1048576) : Con Tryz.prog w0 22 #[S key, S nonce, S b, S s] H (fun v H' => v = S (sTag key nonce b s) ∧ H' = H) := by
 have hS0 : Sep H [] H := Sep.refl
 have lb := flB_length' b
 have ls := flB_length' s
 have l1 := lleB_length b.length 8
 have l2 := lleB_length s.length 8
 have l3 : (flB b ++ flB s).length = (flB b).length + (flB s).length := List.length_append
 have l4 : (flB b ++ flB s ++ lleB b.length 8).length = (flB b).length + (flB s).length + 8 := by rw [List.length_append, l3, l1]
 have l5 : (flB b ++ flB s ++ lleB b.length 8 ++ lleB s.length 8).length = (flB b).length + (flB s).length + 16 := by rw [List.length_append, l4, l2]
 have lc := ch_block hk hn
 refine Con.intro Tryz.func22 rfl rfl ?_
 refine AW.seq ?_
 refine AW.region ?_
 refine OpsW.q rfl (q_assign (v := S _) rfl) ?_
 refine OpsW.nil ?_
 refine SeqP.go ?_
 refine AW.seq ?_
 refine AW.region ?_
 refine OpsW.q rfl (q_move (v := S _) rfl) ?_
 refine OpsW.q rfl (q_move (v := S _) rfl) ?_
 refine OpsW.q rfl (o_call rfl Tryz.func38 rfl rfl (Ch.blockR_con _ _ _)) ?_
 refine OpsW.q rfl (q_move (v := .tuple _) rfl) ?_
 refine OpsW.q rfl (q_extract (v := S _) rfl rfl) ?_
 refine OpsW.q rfl (q_extract (v := .int _ _) rfl rfl) ?_
 refine OpsW.q rfl (q_assign (v := S _) rfl) ?_
 refine OpsW.q rfl (q_assign (v := .int _ _) rfl) ?_
 refine OpsW.nil ?_
 refine SeqP.go ?_
 refine AW.seq ?_
 refine AW.drawK [] 20 rfl (by kernel_rfl) ?_
 refine SeqK.q rfl (q_move (v := S _) rfl) ?_
 refine SeqK.q rfl (q_sliceS_hi Tryz.underlying9 rfl rfl (by omega) (by omega)) ?_
 rw [show Int.toNat 32 = 32 from rfl]
 refine SeqK.q rfl (q_move (v := S _) rfl) ?_
 refine SeqK.q rfl (o_call rfl Tryz.func40 rfl rfl (sfilledR_con (by omega))) ?_
 refine SeqK.q rfl (q_move (v := S _) rfl) ?_
 refine SeqK.q rfl (o_call rfl Tryz.func40 rfl rfl (sfilledR_con (by omega))) ?_
 refine SeqK.q rfl (q_cat rfl rfl (by omega)) ?_
 refine SeqK.q rfl (q_move (v := S _) rfl) ?_
 refine SeqK.q rfl (q_lenS Tryz.underlying9 rfl) ?_
 refine SeqK.q rfl (o_call rfl Tryz.func41 rfl rfl (slongR_con (by omega))) ?_
 refine SeqK.q rfl (q_cat rfl rfl (by omega)) ?_
 refine SeqK.q rfl (q_move (v := S _) rfl) ?_
 refine SeqK.q rfl (q_lenS Tryz.underlying9 rfl) ?_
 refine SeqK.q rfl (o_call rfl Tryz.func41 rfl rfl (slongR_con (by omega))) ?_
 refine SeqK.q rfl (q_cat rfl rfl (by omega)) ?_
 refine SeqK.q rfl (o_call rfl Tryz.func39 rfl rfl (Po.tagR_con _ _ (by omega))) ?_
 refine SeqK.q rfl (q_move (v := .tuple _) rfl) ?_
 refine SeqK.q rfl (q_extract (v := S _) rfl rfl) ?_
 refine SeqK.q rfl (q_extract (v := .int _ _) rfl rfl) ?_
 refine SeqK.q rfl (q_assign (v := S _) rfl) ?_
 refine SeqK.done ?_
 refine OpsW.q rfl (q_assign (v := .int _ _) rfl) ?_
 refine OpsW.nil ?_
 refine SeqP.go ?_
 refine AW.seq ?_
 refine AW.region ?_
 refine OpsW.q rfl (q_move (v := S _) rfl) ?_
 refine OpsW.q rfl (q_assign (v := S _) rfl) ?_
 refine OpsW.nil ?_
 refine SeqP.go ?_
 refine AW.ret ?_
 refine RetP.mk1 (H' := H) (v1 := S _) rfl rfl  hS0.le ?_
 exact ⟨by rw [sTag_def], rfl⟩
theorem Seal_con {suite : Int} {key nonce b d : List UInt8} (hb : b.length ≤ 4294967296) (hd : d.length ≤ 4294967296) : Con Tryz.prog w0 33 #[.int .i64 suite, S key, S nonce, S b, S d] H (fun v H' => v = .tuple #[S (slSeal suite key nonce b d).1, .int .i64 (slSeal suite key nonce b d).2] ∧ H' = H) := by
 have hS0 : Sep H [] H := Sep.refl
 refine Con.intro Tryz.func33 rfl rfl ?_
 refine AW.seq ?_
 refine AW.region ?_
 refine OpsW.q rfl (q_assign (v := S _) rfl) ?_
 refine OpsW.q rfl (q_assign (v := .int _ _) rfl) ?_
 refine OpsW.nil ?_
 refine SeqP.go ?_
 refine AW.seq ?_
 refine AW.block ?_
 refine AW.seq ?_
 refine AW.region ?_
 refine OpsW.q rfl (q_move (v := .int _ _) rfl) ?_
 refine OpsW.q rfl (q_eql rfl rfl) ?_
 refine OpsW.q rfl (q_assign (v := .bool _) rfl) ?_
 refine OpsW.nil ?_
 refine SeqP.go ?_
 refine AW.cond rfl (fun h0 => ?_) (fun h0 => ?_)
 ·
  try simp only [z1, z2, z3, z4, z5, z6, z7, z8, z9, z10, z11, z12, z13, z14] at h0
  obtain rfl : suite = 4865 := h0
  rw [slSeal_a]
  refine AW.seq ?_
  refine AW.region ?_
  refine OpsW.q rfl (q_move (v := S _) rfl) ?_
  refine OpsW.q rfl (q_move (v := S _) rfl) ?_
  refine OpsW.q rfl (q_move (v := S _) rfl) ?_
  refine OpsW.q rfl (q_move (v := S _) rfl) ?_
  refine OpsW.q rfl (o_call rfl Tryz.func58 rfl rfl (gSeal_con (by omega) (by omega))) ?_
  refine OpsW.q rfl (q_extract (v := S _) rfl rfl) ?_
  refine OpsW.q rfl (q_extract (v := .int _ _) rfl rfl) ?_
  refine OpsW.q rfl (q_assign (v := S _) rfl) ?_
  refine OpsW.q rfl (q_assign (v := .int _ _) rfl) ?_
  refine OpsW.nil ?_
  refine SeqP.go ?_
  refine AW.ret ?_
  refine BlockP.ret ?_
  refine SeqP.ret ?_
  refine RetP.mk2 (H' := H) (v1 := S _) (v2 := .int _ _) rfl rfl rfl  hS0.le ?_
  exact ⟨rfl, rfl⟩
 try simp only [z1, z2, z3, z4, z5, z6, z7, z8, z9, z10, z11, z12, z13, z14] at h0
 refine AW.seq ?_
 refine AW.region ?_
 refine OpsW.q rfl (q_move (v := .int _ _) rfl) ?_
 refine OpsW.q rfl (q_neq rfl rfl) ?_
 refine OpsW.q rfl (q_assign (v := .bool _) rfl) ?_
 refine OpsW.nil ?_
 refine SeqP.go ?_
 refine AW.cond rfl (fun h1 => ?_) (fun h1 => ?_)
 ·
  try simp only [z1, z2, z3, z4, z5, z6, z7, z8, z9, z10, z11, z12, z13, z14] at h1
  rw [slSeal_no _ _ _ _ h0 h1]
  refine AW.seq ?_
  refine AW.region ?_
  refine OpsW.q rfl (q_assign (v := S _) rfl) ?_
  refine OpsW.q rfl (q_assign (v := .int _ _) rfl) ?_
  refine OpsW.nil ?_
  refine SeqP.go ?_
  refine AW.ret ?_
  refine BlockP.ret ?_
  refine SeqP.ret ?_
  refine RetP.mk2 (H' := H) (v1 := S _) (v2 := .int _ _) rfl rfl rfl  hS0.le ?_
  exact ⟨rfl, rfl⟩
 try simp only [z1, z2, z3, z4, z5, z6, z7, z8, z9, z10, z11, z12, z13, z14] at h1
 obtain rfl : suite = 4867 := h1
 rw [slSeal_b]
 refine AW.seq ?_
 refine AW.region ?_
 refine OpsW.q rfl (q_move (v := S _) rfl) ?_
 refine OpsW.q rfl (q_lenS Tryz.underlying9 rfl) ?_
 refine OpsW.q rfl (q_move (v := .int _ _) rfl) ?_
 refine OpsW.q rfl (o_call rfl Tryz.func18 rfl rfl (Size_con _)) ?_
 rw [sizeS_b]
 refine OpsW.q rfl (q_neq rfl rfl) ?_
 refine OpsW.qb rfl (q_move (v := .bool _) rfl) ?_
 intro b33 eb33
 refine OpsW.g rfl rfl rfl (fun hB => by simp only [Bool.and_eq_true, beq_iff_eq] at hB; obtain rfl := hB; exact (q_move (v := S _) rfl)) ?_
 refine OpsW.g rfl rfl rfl (fun hB => by simp only [Bool.and_eq_true, beq_iff_eq] at hB; obtain rfl := hB; exact (q_lenS Tryz.underlying9 rfl)) ?_
 refine OpsW.g rfl rfl rfl (fun hB => by simp only [Bool.and_eq_true, beq_iff_eq] at hB; obtain rfl := hB; exact (q_neq rfl rfl)) ?_
 refine OpsW.q rfl (q_or2 rfl rfl rfl) ?_
 refine OpsW.q rfl (q_assign (v := .bool _) rfl) ?_
 refine OpsW.nil ?_
 refine SeqP.go ?_
 refine AW.cond rfl (fun h2 => ?_) (fun h2 => ?_)
 ·
  try simp only [eb33, z1, z2, z3, z4, z5, z6, z7, z8, z9, z10, z11, z12, z13, z14] at h2
  rw [sSeal_key (by omega)]
  refine AW.seq ?_
  refine AW.region ?_
  refine OpsW.q rfl (q_assign (v := S _) rfl) ?_
  refine OpsW.q rfl (q_assign (v := .int _ _) rfl) ?_
  refine OpsW.nil ?_
  refine SeqP.go ?_
  refine AW.ret ?_
  refine BlockP.ret ?_
  refine SeqP.ret ?_
  refine RetP.mk2 (H' := H) (v1 := S _) (v2 := .int _ _) rfl rfl rfl  hS0.le ?_
  exact ⟨rfl, rfl⟩
 try simp only [eb33, z1, z2, z3, z4, z5, z6, z7, z8, z9, z10, z11, z12, z13, z14] at h2
 have hkn : key.length = 32 ∧ nonce.length = 12 := by omega
 refine AW.seq ?_
 refine AW.region ?_
 refine OpsW.q rfl (q_move (v := S _) rfl) ?_
 refine OpsW.q rfl (q_lenS Tryz.underlying9 rfl) ?_
 refine OpsW.q rfl (q_gtr rfl rfl) ?_
 refine OpsW.qb rfl (q_move (v := .bool _) rfl) ?_
 intro b42 eb42
 refine OpsW.g rfl rfl rfl (fun hB => by simp only [Bool.and_eq_true, beq_iff_eq] at hB; obtain rfl := hB; exact (q_move (v := S _) rfl)) ?_
 refine OpsW.g rfl rfl rfl (fun hB => by simp only [Bool.and_eq_true, beq_iff_eq] at hB; obtain rfl := hB; exact (q_lenS Tryz.underlying9 rfl)) ?_
 refine OpsW.g rfl rfl rfl (fun hB => by simp only [Bool.and_eq_true, beq_iff_eq] at hB; obtain rfl := hB; exact (q_gtr rfl rfl)) ?_
 refine OpsW.q rfl (q_or2 rfl rfl rfl) ?_
 refine OpsW.q rfl (q_assign (v := .bool _) rfl) ?_
 refine OpsW.nil ?_
 refine SeqP.go ?_
 refine AW.cond rfl (fun h3 => ?_) (fun h3 => ?_)
 ·
  try simp only [eb33, eb42, z1, z2, z3, z4, z5, z6, z7, z8, z9, z10, z11, z12, z13, z14] at h3
  rw [sSeal_big hkn (by omega)]
  refine AW.seq ?_
  refine AW.region ?_
  refine OpsW.q rfl (q_assign (v := S _) rfl) ?_
  refine OpsW.q rfl (q_assign (v := .int _ _) rfl) ?_
  refine OpsW.nil ?_
  refine SeqP.go ?_
  refine AW.ret ?_
  refine BlockP.ret ?_
  refine SeqP.ret ?_
  refine RetP.mk2 (H' := H) (v1 := S _) (v2 := .int _ _) rfl rfl rfl  hS0.le ?_
  exact ⟨rfl, rfl⟩
 try simp only [eb33, eb42, z1, z2, z3, z4, z5, z6, z7, z8, z9, z10, z11, z12, z13, z14] at h3
 have hbd : ¬ (1048576 < b.length ∨ 1048576 < d.length) := by omega
 have hxl := sXor_length (d := d) hkn.1 hkn.2 (by omega)
 have hxe := sXor_ok (d := d) hkn.1 hkn.2 (by omega)
 have htl := sTag_length b (Ch.xorP key nonce 1 d).1 hkn.1 hkn.2
 refine AW.skip ?_
 refine BlockP.go ?_
 refine SeqP.go ?_
 refine AW.seq ?_
 refine AW.region ?_
 refine OpsW.q rfl (q_move (v := S _) rfl) ?_
 refine OpsW.q rfl (q_move (v := S _) rfl) ?_
 refine OpsW.q rfl (q_move (v := S _) rfl) ?_
 refine OpsW.q rfl (o_call rfl Tryz.func46 rfl rfl (Ch.xor_con _ _ _ _ (by omega))) ?_
 refine OpsW.q rfl (q_move (v := .tuple _) rfl) ?_
 refine OpsW.q rfl (q_extract (v := S _) rfl rfl) ?_
 refine OpsW.q rfl (q_extract (v := .int _ _) rfl rfl) ?_
 refine OpsW.q rfl (q_assign (v := S _) rfl) ?_
 refine OpsW.q rfl (q_assign (v := .int _ _) rfl) ?_
 refine OpsW.nil ?_
 refine SeqP.go ?_
 refine AW.seq ?_
 refine AW.seq ?_
 refine AW.region ?_
 refine OpsW.q rfl (q_move (v := .int _ _) rfl) ?_
 refine OpsW.q rfl (q_neq rfl rfl) ?_
 refine OpsW.nil ?_
 refine SeqP.go ?_
 refine AW.cond rfl (fun h4 => ?_) (fun h4 => ?_)
 ·
  exfalso
  try simp only [eb33, eb42, z1, z2, z3, z4, z5, z6, z7, z8, z9, z10, z11, z12, z13, z14] at h4
  exact h4 hxe
 try simp only [eb33, eb42, z1, z2, z3, z4, z5, z6, z7, z8, z9, z10, z11, z12, z13, z14] at h4
 refine AW.skip ?_
 refine SeqP.go ?_
 refine AW.seq ?_
 refine AW.region ?_
 refine OpsW.q rfl (q_move (v := S _) rfl) ?_
 refine OpsW.q rfl (q_move (v := S _) rfl) ?_
 refine OpsW.q rfl (q_move (v := S _) rfl) ?_
 refine OpsW.q rfl (q_move (v := S _) rfl) ?_
 refine OpsW.q rfl (q_move (v := S _) rfl) ?_
 refine OpsW.q rfl (o_call rfl Tryz.func45 rfl rfl (stag_con hkn.1 hkn.2 (by omega) (by omega))) ?_
 refine OpsW.q rfl (q_cat rfl rfl (by omega)) ?_
 refine OpsW.q rfl (q_assign (v := S _) rfl) ?_
 refine OpsW.q rfl (q_assign (v := .int _ _) rfl) ?_
 refine OpsW.nil ?_
 refine SeqP.go ?_
 refine AW.ret ?_
 refine RetP.mk2 (H' := H) (v1 := S _) (v2 := .int _ _) rfl rfl rfl  hS0.le ?_
 rw [sSeal_ok hkn hbd]
 exact ⟨rfl, rfl⟩
theorem sSealR_con {suite : Int} {key nonce b d : List UInt8} (hb : b.length ≤ 4294967296) (hd : d.length ≤ 4294967296) : Con Tryz.prog w0 8 #[.int .i64 suite, S key, S nonce, S b, S d] H (fun v H' => v = .tuple #[S (slSeal suite key nonce b d).1, .int .i64 (slSeal suite key nonce b d).2] ∧ H' = H) := by
 have hS0 : Sep H [] H := Sep.refl
 refine Con.intro Tryz.func8 rfl rfl ?_
 refine AW.seq ?_
 refine AW.region ?_
 refine OpsW.q rfl (q_assign (v := S _) rfl) ?_
 refine OpsW.q rfl (q_assign (v := .int _ _) rfl) ?_
 refine OpsW.nil ?_
 refine SeqP.go ?_
 refine AW.seq ?_
 refine AW.seq ?_
 refine AW.region ?_
 refine OpsW.q rfl (q_move (v := .int _ _) rfl) ?_
 refine OpsW.q rfl (q_eql rfl rfl) ?_
 refine OpsW.nil ?_
 refine SeqP.go ?_
 refine AW.cond rfl (fun h0 => ?_) (fun h0 => ?_)
 ·
  try simp only [z1, z2, z3, z4, z5, z6, z7, z8, z9, z10, z11, z12, z13, z14] at h0
  obtain rfl : suite = 4865 := h0
  rw [slSeal_a]
  refine AW.seq ?_
  refine AW.region ?_
  refine OpsW.q rfl (q_move (v := S _) rfl) ?_
  refine OpsW.q rfl (q_move (v := S _) rfl) ?_
  refine OpsW.q rfl (q_move (v := S _) rfl) ?_
  refine OpsW.q rfl (q_move (v := S _) rfl) ?_
  refine OpsW.q rfl (o_call rfl Tryz.func20 rfl rfl (SealR_con (by omega) (by omega))) ?_
  refine OpsW.q rfl (q_extract (v := S _) rfl rfl) ?_
  refine OpsW.q rfl (q_extract (v := .int _ _) rfl rfl) ?_
  refine OpsW.q rfl (q_assign (v := S _) rfl) ?_
  refine OpsW.q rfl (q_assign (v := .int _ _) rfl) ?_
  refine OpsW.nil ?_
  refine SeqP.go ?_
  refine AW.ret ?_
  refine SeqP.ret ?_
  refine RetP.mk2 (H' := H) (v1 := S _) (v2 := .int _ _) rfl rfl rfl  hS0.le ?_
  exact ⟨rfl, rfl⟩
 try simp only [z1, z2, z3, z4, z5, z6, z7, z8, z9, z10, z11, z12, z13, z14] at h0
 refine AW.skip ?_
 refine SeqP.go ?_
 refine AW.seq ?_
 refine AW.seq ?_
 refine AW.region ?_
 refine OpsW.q rfl (q_move (v := .int _ _) rfl) ?_
 refine OpsW.q rfl (q_neq rfl rfl) ?_
 refine OpsW.nil ?_
 refine SeqP.go ?_
 refine AW.cond rfl (fun h1 => ?_) (fun h1 => ?_)
 ·
  try simp only [z1, z2, z3, z4, z5, z6, z7, z8, z9, z10, z11, z12, z13, z14] at h1
  rw [slSeal_no _ _ _ _ h0 h1]
  refine AW.seq ?_
  refine AW.region ?_
  refine OpsW.q rfl (q_assign (v := S _) rfl) ?_
  refine OpsW.q rfl (q_assign (v := .int _ _) rfl) ?_
  refine OpsW.nil ?_
  refine SeqP.go ?_
  refine AW.ret ?_
  refine SeqP.ret ?_
  refine RetP.mk2 (H' := H) (v1 := S _) (v2 := .int _ _) rfl rfl rfl  hS0.le ?_
  exact ⟨rfl, rfl⟩
 try simp only [z1, z2, z3, z4, z5, z6, z7, z8, z9, z10, z11, z12, z13, z14] at h1
 obtain rfl : suite = 4867 := h1
 rw [slSeal_b]
 refine AW.skip ?_
 refine SeqP.go ?_
 refine AW.seq ?_
 refine AW.seq ?_
 refine AW.region ?_
 refine OpsW.q rfl (q_move (v := S _) rfl) ?_
 refine OpsW.q rfl (q_lenS Tryz.underlying9 rfl) ?_
 refine OpsW.q rfl (q_neq rfl rfl) ?_
 refine OpsW.qb rfl (q_move (v := .bool _) rfl) ?_
 intro b28 eb28
 refine OpsW.g rfl rfl rfl (fun hB => by simp only [Bool.and_eq_true, beq_iff_eq] at hB; obtain rfl := hB; exact (q_move (v := S _) rfl)) ?_
 refine OpsW.g rfl rfl rfl (fun hB => by simp only [Bool.and_eq_true, beq_iff_eq] at hB; obtain rfl := hB; exact (q_lenS Tryz.underlying9 rfl)) ?_
 refine OpsW.g rfl rfl rfl (fun hB => by simp only [Bool.and_eq_true, beq_iff_eq] at hB; obtain rfl := hB; exact (q_neq rfl rfl)) ?_
 refine OpsW.q rfl (q_or2 rfl rfl rfl) ?_
 refine OpsW.nil ?_
 refine SeqP.go ?_
 refine AW.cond rfl (fun h2 => ?_) (fun h2 => ?_)
 ·
  try simp only [eb28, z1, z2, z3, z4, z5, z6, z7, z8, z9, z10, z11, z12, z13, z14] at h2
  rw [sSeal_key (by omega)]
  refine AW.seq ?_
  refine AW.region ?_
  refine OpsW.q rfl (q_assign (v := S _) rfl) ?_
  refine OpsW.q rfl (q_assign (v := .int _ _) rfl) ?_
  refine OpsW.nil ?_
  refine SeqP.go ?_
  refine AW.ret ?_
  refine SeqP.ret ?_
  refine RetP.mk2 (H' := H) (v1 := S _) (v2 := .int _ _) rfl rfl rfl  hS0.le ?_
  exact ⟨rfl, rfl⟩
 try simp only [eb28, z1, z2, z3, z4, z5, z6, z7, z8, z9, z10, z11, z12, z13, z14] at h2
 have hkn : key.length = 32 ∧ nonce.length = 12 := by omega
 refine AW.skip ?_
 refine SeqP.go ?_
 refine AW.seq ?_
 refine AW.seq ?_
 refine AW.region ?_
 refine OpsW.q rfl (q_move (v := S _) rfl) ?_
 refine OpsW.q rfl (q_lenS Tryz.underlying9 rfl) ?_
 refine OpsW.q rfl (q_gtr rfl rfl) ?_
 refine OpsW.qb rfl (q_move (v := .bool _) rfl) ?_
 intro b36 eb36
 refine OpsW.g rfl rfl rfl (fun hB => by simp only [Bool.and_eq_true, beq_iff_eq] at hB; obtain rfl := hB; exact (q_move (v := S _) rfl)) ?_
 refine OpsW.g rfl rfl rfl (fun hB => by simp only [Bool.and_eq_true, beq_iff_eq] at hB; obtain rfl := hB; exact (q_lenS Tryz.underlying9 rfl)) ?_
 refine OpsW.g rfl rfl rfl (fun hB => by simp only [Bool.and_eq_true, beq_iff_eq] at hB; obtain rfl := hB; exact (q_gtr rfl rfl)) ?_
 refine OpsW.q rfl (q_or2 rfl rfl rfl) ?_
 refine OpsW.nil ?_
 refine SeqP.go ?_
 refine AW.cond rfl (fun h3 => ?_) (fun h3 => ?_)
 ·
  try simp only [eb28, eb36, z1, z2, z3, z4, z5, z6, z7, z8, z9, z10, z11, z12, z13, z14] at h3
  rw [sSeal_big hkn (by omega)]
  refine AW.seq ?_
  refine AW.region ?_
  refine OpsW.q rfl (q_assign (v := S _) rfl) ?_
  refine OpsW.q rfl (q_assign (v := .int _ _) rfl) ?_
  refine OpsW.nil ?_
  refine SeqP.go ?_
  refine AW.ret ?_
  refine SeqP.ret ?_
  refine RetP.mk2 (H' := H) (v1 := S _) (v2 := .int _ _) rfl rfl rfl  hS0.le ?_
  exact ⟨rfl, rfl⟩
 try simp only [eb28, eb36, z1, z2, z3, z4, z5, z6, z7, z8, z9, z10, z11, z12, z13, z14] at h3
 have hbd : ¬ (1048576 < b.length ∨ 1048576 < d.length) := by omega
 have hxl := sXor_length (d := d) hkn.1 hkn.2 (by omega)
 have hxe := sXor_ok (d := d) hkn.1 hkn.2 (by omega)
 have htl := sTag_length b (Ch.xorP key nonce 1 d).1 hkn.1 hkn.2
 refine AW.skip ?_
 refine SeqP.go ?_
 refine AW.seq ?_
 refine AW.region ?_
 refine OpsW.q rfl (q_move (v := S _) rfl) ?_
 refine OpsW.q rfl (q_move (v := S _) rfl) ?_
 refine OpsW.q rfl (q_move (v := S _) rfl) ?_
 refine OpsW.q rfl (o_call rfl Tryz.func21 rfl rfl (Ch.xorR_con _ _ _ _ (by omega))) ?_
 rw [Ch.xor_same]
 refine OpsW.q rfl (q_move (v := .tuple _) rfl) ?_
 refine OpsW.q rfl (q_extract (v := S _) rfl rfl) ?_
 refine OpsW.q rfl (q_extract (v := .int _ _) rfl rfl) ?_
 refine OpsW.q rfl (q_assign (v := S _) rfl) ?_
 refine OpsW.q rfl (q_assign (v := .int _ _) rfl) ?_
 refine OpsW.nil ?_
 refine SeqP.go ?_
 refine AW.seq ?_
 refine AW.region ?_
 refine OpsW.q rfl (q_move (v := S _) rfl) ?_
 refine OpsW.q rfl (q_move (v := S _) rfl) ?_
 refine OpsW.q rfl (q_move (v := S _) rfl) ?_
 refine OpsW.q rfl (q_move (v := S _) rfl) ?_
 refine OpsW.q rfl (q_move (v := S _) rfl) ?_
 refine OpsW.q rfl (o_call rfl Tryz.func22 rfl rfl (stagR_con hkn.1 hkn.2 (by omega) (by omega))) ?_
 refine OpsW.q rfl (q_cat rfl rfl (by omega)) ?_
 refine OpsW.q rfl (q_assign (v := S _) rfl) ?_
 refine OpsW.q rfl (q_assign (v := .int _ _) rfl) ?_
 refine OpsW.nil ?_
 refine SeqP.go ?_
 refine AW.ret ?_
 refine RetP.mk2 (H' := H) (v1 := S _) (v2 := .int _ _) rfl rfl rfl  hS0.le ?_
 rw [sSeal_ok hkn hbd]
 exact ⟨rfl, rfl⟩
theorem Open_con {suite : Int} {key nonce b d : List UInt8} (hb : b.length ≤ 4294967296) (hd : d.length ≤ 4294967296) : Con Tryz.prog w0 24 #[.int .i64 suite, S key, S nonce, S b, S d] H (fun v H' => v = .tuple #[S (slOpen suite key nonce b d).1, .int .i64 (slOpen suite key nonce b d).2] ∧ H' = H) := by
 have hS0 : Sep H [] H := Sep.refl
 refine Con.intro Tryz.func24 rfl rfl ?_
 refine AW.seq ?_
 refine AW.region ?_
 refine OpsW.q rfl (q_assign (v := S _) rfl) ?_
 refine OpsW.q rfl (q_assign (v := .int _ _) rfl) ?_
 refine OpsW.nil ?_
 refine SeqP.go ?_
 refine AW.seq ?_
 refine AW.region ?_
 refine OpsW.q rfl (q_move (v := S _) rfl) ?_
 refine OpsW.q rfl (q_lenS Tryz.underlying9 rfl) ?_
 refine OpsW.q rfl (q_subI rfl rfl (by omega)) ?_
 refine OpsW.q rfl (q_assign (v := .int _ _) rfl) ?_
 refine OpsW.nil ?_
 refine SeqP.go ?_
 refine AW.seq ?_
 refine AW.block ?_
 refine AW.seq ?_
 refine AW.region ?_
 refine OpsW.q rfl (q_move (v := .int _ _) rfl) ?_
 refine OpsW.q rfl (q_eql rfl rfl) ?_
 refine OpsW.q rfl (q_assign (v := .bool _) rfl) ?_
 refine OpsW.nil ?_
 refine SeqP.go ?_
 refine AW.cond rfl (fun h0 => ?_) (fun h0 => ?_)
 ·
  try simp only [z1, z2, z3, z4, z5, z6, z7, z8, z9, z10, z11, z12, z13, z14] at h0
  obtain rfl : suite = 4865 := h0
  rw [slOpen_a]
  refine AW.seq ?_
  refine AW.region ?_
  refine OpsW.q rfl (q_move (v := S _) rfl) ?_
  refine OpsW.q rfl (q_move (v := S _) rfl) ?_
  refine OpsW.q rfl (q_move (v := S _) rfl) ?_
  refine OpsW.q rfl (q_move (v := S _) rfl) ?_
  refine OpsW.q rfl (o_call rfl Tryz.func43 rfl rfl (gOpen_con (by omega) (by omega))) ?_
  refine OpsW.q rfl (q_extract (v := S _) rfl rfl) ?_
  refine OpsW.q rfl (q_extract (v := .int _ _) rfl rfl) ?_
  refine OpsW.q rfl (q_assign (v := S _) rfl) ?_
  refine OpsW.q rfl (q_assign (v := .int _ _) rfl) ?_
  refine OpsW.nil ?_
  refine SeqP.go ?_
  refine AW.ret ?_
  refine BlockP.ret ?_
  refine SeqP.ret ?_
  refine RetP.mk2 (H' := H) (v1 := S _) (v2 := .int _ _) rfl rfl rfl  hS0.le ?_
  exact ⟨rfl, rfl⟩
 try simp only [z1, z2, z3, z4, z5, z6, z7, z8, z9, z10, z11, z12, z13, z14] at h0
 refine AW.seq ?_
 refine AW.region ?_
 refine OpsW.q rfl (q_move (v := .int _ _) rfl) ?_
 refine OpsW.q rfl (q_neq rfl rfl) ?_
 refine OpsW.q rfl (q_assign (v := .bool _) rfl) ?_
 refine OpsW.nil ?_
 refine SeqP.go ?_
 refine AW.cond rfl (fun h1 => ?_) (fun h1 => ?_)
 ·
  try simp only [z1, z2, z3, z4, z5, z6, z7, z8, z9, z10, z11, z12, z13, z14] at h1
  rw [slOpen_no _ _ _ _ h0 h1]
  refine AW.seq ?_
  refine AW.region ?_
  refine OpsW.q rfl (q_assign (v := S _) rfl) ?_
  refine OpsW.q rfl (q_assign (v := .int _ _) rfl) ?_
  refine OpsW.nil ?_
  refine SeqP.go ?_
  refine AW.ret ?_
  refine BlockP.ret ?_
  refine SeqP.ret ?_
  refine RetP.mk2 (H' := H) (v1 := S _) (v2 := .int _ _) rfl rfl rfl  hS0.le ?_
  exact ⟨rfl, rfl⟩
 try simp only [z1, z2, z3, z4, z5, z6, z7, z8, z9, z10, z11, z12, z13, z14] at h1
 obtain rfl : suite = 4867 := h1
 rw [slOpen_b]
 refine AW.seq ?_
 refine AW.region ?_
 refine OpsW.q rfl (q_move (v := S _) rfl) ?_
 refine OpsW.q rfl (q_lenS Tryz.underlying9 rfl) ?_
 refine OpsW.q rfl (q_move (v := .int _ _) rfl) ?_
 refine OpsW.q rfl (o_call rfl Tryz.func18 rfl rfl (Size_con _)) ?_
 rw [sizeS_b]
 refine OpsW.q rfl (q_neq rfl rfl) ?_
 refine OpsW.qb rfl (q_move (v := .bool _) rfl) ?_
 intro b35 eb35
 refine OpsW.g rfl rfl rfl (fun hB => by simp only [Bool.and_eq_true, beq_iff_eq] at hB; obtain rfl := hB; exact (q_move (v := S _) rfl)) ?_
 refine OpsW.g rfl rfl rfl (fun hB => by simp only [Bool.and_eq_true, beq_iff_eq] at hB; obtain rfl := hB; exact (q_lenS Tryz.underlying9 rfl)) ?_
 refine OpsW.g rfl rfl rfl (fun hB => by simp only [Bool.and_eq_true, beq_iff_eq] at hB; obtain rfl := hB; exact (q_neq rfl rfl)) ?_
 refine OpsW.q rfl (q_or2 rfl rfl rfl) ?_
 refine OpsW.q rfl (q_assign (v := .bool _) rfl) ?_
 refine OpsW.nil ?_
 refine SeqP.go ?_
 refine AW.cond rfl (fun h2 => ?_) (fun h2 => ?_)
 ·
  try simp only [eb35, z1, z2, z3, z4, z5, z6, z7, z8, z9, z10, z11, z12, z13, z14] at h2
  rw [sOpen_key (by omega)]
  refine AW.seq ?_
  refine AW.region ?_
  refine OpsW.q rfl (q_assign (v := S _) rfl) ?_
  refine OpsW.q rfl (q_assign (v := .int _ _) rfl) ?_
  refine OpsW.nil ?_
  refine SeqP.go ?_
  refine AW.ret ?_
  refine BlockP.ret ?_
  refine SeqP.ret ?_
  refine RetP.mk2 (H' := H) (v1 := S _) (v2 := .int _ _) rfl rfl rfl  hS0.le ?_
  exact ⟨rfl, rfl⟩
 try simp only [eb35, z1, z2, z3, z4, z5, z6, z7, z8, z9, z10, z11, z12, z13, z14] at h2
 have hkn : key.length = 32 ∧ nonce.length = 12 := by omega
 refine AW.seq ?_
 refine AW.region ?_
 refine OpsW.q rfl (q_move (v := .int _ _) rfl) ?_
 refine OpsW.q rfl (q_lss rfl rfl) ?_
 refine OpsW.q rfl (q_assign (v := .bool _) rfl) ?_
 refine OpsW.nil ?_
 refine SeqP.go ?_
 refine AW.cond rfl (fun h3 => ?_) (fun h3 => ?_)
 ·
  try simp only [eb35, z1, z2, z3, z4, z5, z6, z7, z8, z9, z10, z11, z12, z13, z14] at h3
  rw [sOpen_short hkn (by omega)]
  refine AW.seq ?_
  refine AW.region ?_
  refine OpsW.q rfl (q_assign (v := S _) rfl) ?_
  refine OpsW.q rfl (q_assign (v := .int _ _) rfl) ?_
  refine OpsW.nil ?_
  refine SeqP.go ?_
  refine AW.ret ?_
  refine BlockP.ret ?_
  refine SeqP.ret ?_
  refine RetP.mk2 (H' := H) (v1 := S _) (v2 := .int _ _) rfl rfl rfl  hS0.le ?_
  exact ⟨rfl, rfl⟩
 try simp only [eb35, z1, z2, z3, z4, z5, z6, z7, z8, z9, z10, z11, z12, z13, z14] at h3
 have h16 : ¬ d.length < 16 := by omega
 rw [show (d.length : Int) - 16 = ((d.length - 16 : Nat) : Int) from by omega]
 refine AW.seq ?_
 refine AW.region ?_
 refine OpsW.q rfl (q_move (v := S _) rfl) ?_
 refine OpsW.q rfl (q_lenS Tryz.underlying9 rfl) ?_
 refine OpsW.q rfl (q_gtr rfl rfl) ?_
 refine OpsW.qb rfl (q_move (v := .bool _) rfl) ?_
 intro b47 eb47
 refine OpsW.g rfl rfl rfl (fun hB => by simp only [Bool.and_eq_true, beq_iff_eq] at hB; obtain rfl := hB; exact (q_move (v := .int _ _) rfl)) ?_
 refine OpsW.g rfl rfl rfl (fun hB => by simp only [Bool.and_eq_true, beq_iff_eq] at hB; obtain rfl := hB; exact (q_gtr rfl rfl)) ?_
 refine OpsW.q rfl (q_or2 rfl rfl rfl) ?_
 refine OpsW.q rfl (q_assign (v := .bool _) rfl) ?_
 refine OpsW.nil ?_
 refine SeqP.go ?_
 refine AW.cond rfl (fun h4 => ?_) (fun h4 => ?_)
 ·
  try simp only [eb35, eb47, z1, z2, z3, z4, z5, z6, z7, z8, z9, z10, z11, z12, z13, z14] at h4
  rw [sOpen_big hkn h16 (by omega)]
  refine AW.seq ?_
  refine AW.region ?_
  refine OpsW.q rfl (q_assign (v := S _) rfl) ?_
  refine OpsW.q rfl (q_assign (v := .int _ _) rfl) ?_
  refine OpsW.nil ?_
  refine SeqP.go ?_
  refine AW.ret ?_
  refine BlockP.ret ?_
  refine SeqP.ret ?_
  refine RetP.mk2 (H' := H) (v1 := S _) (v2 := .int _ _) rfl rfl rfl  hS0.le ?_
  exact ⟨rfl, rfl⟩
 try simp only [eb35, eb47, z1, z2, z3, z4, z5, z6, z7, z8, z9, z10, z11, z12, z13, z14] at h4
 have hbd : ¬ (1048576 < b.length ∨ 1048592 < d.length) := by omega
 have htk : (d.take (d.length - 16)).length = d.length - 16 := by rw [List.length_take]; omega
 have hxe := sXor_ok (d := d.take (d.length - 16)) hkn.1 hkn.2 (by omega)
 have htl := sTag_length b (d.take (d.length - 16)) hkn.1 hkn.2
 refine AW.seq ?_
 refine AW.drawK [] 10 rfl (by kernel_rfl) ?_
 refine SeqK.q rfl (q_move (v := S _) rfl) ?_
 refine SeqK.q rfl (q_move (v := S _) rfl) ?_
 refine SeqK.q rfl (q_move (v := S _) rfl) ?_
 refine SeqK.q rfl (q_move (v := S _) rfl) ?_
 refine SeqK.q rfl (q_move (v := .int _ _) rfl) ?_
 refine SeqK.q rfl (q_sliceS_hi Tryz.underlying9 rfl rfl (by omega) (by omega)) ?_
 rw [Int.toNat_natCast]
 refine SeqK.q rfl (o_call rfl Tryz.func45 rfl rfl (stag_con hkn.1 hkn.2 (by omega) (by omega))) ?_
 refine SeqK.q rfl (q_move (v := S _) rfl) ?_
 refine SeqK.q rfl (q_move (v := .int _ _) rfl) ?_
 refine SeqK.q rfl (q_sliceS_lo Tryz.underlying9 rfl rfl (by omega) (by omega)) ?_
 rw [Int.toNat_natCast]
 refine SeqK.done ?_
 refine OpsW.q rfl (o_call rfl Tryz.func44 rfl rfl (Same_con (by omega))) ?_
 refine OpsW.q rfl (q_not rfl) ?_
 refine OpsW.q rfl (q_assign (v := .bool _) rfl) ?_
 refine OpsW.nil ?_
 refine SeqP.go ?_
 refine AW.cond rfl (fun h5 => ?_) (fun h5 => ?_)
 ·
  try simp only [eb35, eb47, z1, z2, z3, z4, z5, z6, z7, z8, z9, z10, z11, z12, z13, z14] at h5
  have hne : ¬ sTag key nonce b (d.take (d.length - 16)) = d.drop (d.length - 16) := by simpa using h5
  rw [sOpen_tag hkn h16 hbd hne]
  refine AW.seq ?_
  refine AW.region ?_
  refine OpsW.q rfl (q_assign (v := S _) rfl) ?_
  refine OpsW.q rfl (q_assign (v := .int _ _) rfl) ?_
  refine OpsW.nil ?_
  refine SeqP.go ?_
  refine AW.ret ?_
  refine BlockP.ret ?_
  refine SeqP.ret ?_
  refine RetP.mk2 (H' := H) (v1 := S _) (v2 := .int _ _) rfl rfl rfl  hS0.le ?_
  exact ⟨rfl, rfl⟩
 try simp only [eb35, eb47, z1, z2, z3, z4, z5, z6, z7, z8, z9, z10, z11, z12, z13, z14] at h5
 have heq : sTag key nonce b (d.take (d.length - 16)) = d.drop (d.length - 16) := by simpa using h5
 refine AW.skip ?_
 refine BlockP.go ?_
 refine SeqP.go ?_
 refine AW.seq ?_
 refine AW.region ?_
 refine OpsW.q rfl (q_move (v := S _) rfl) ?_
 refine OpsW.q rfl (q_move (v := S _) rfl) ?_
 refine OpsW.q rfl (q_move (v := S _) rfl) ?_
 refine OpsW.q rfl (q_move (v := .int _ _) rfl) ?_
 refine OpsW.q rfl (q_sliceS_hi Tryz.underlying9 rfl rfl (by omega) (by omega)) ?_
 rw [Int.toNat_natCast]
 refine OpsW.q rfl (o_call rfl Tryz.func46 rfl rfl (Ch.xor_con _ _ _ _ (by omega))) ?_
 refine OpsW.q rfl (q_extract (v := S _) rfl rfl) ?_
 refine OpsW.q rfl (q_extract (v := .int _ _) rfl rfl) ?_
 refine OpsW.q rfl (q_assign (v := S _) rfl) ?_
 refine OpsW.q rfl (q_assign (v := .int _ _) rfl) ?_
 refine OpsW.nil ?_
 refine SeqP.go ?_
 refine AW.ret ?_
 refine RetP.mk2 (H' := H) (v1 := S _) (v2 := .int _ _) rfl rfl rfl  hS0.le ?_
 rw [sOpen_ok hkn h16 hbd heq, hxe]
 exact ⟨rfl, rfl⟩
theorem sOpenR_con {suite : Int} {key nonce b d : List UInt8} (hb : b.length ≤ 4294967296) (hd : d.length ≤ 4294967296) : Con Tryz.prog w0 29 #[.int .i64 suite, S key, S nonce, S b, S d] H (fun v H' => v = .tuple #[S (slOpen suite key nonce b d).1, .int .i64 (slOpen suite key nonce b d).2] ∧ H' = H) := by
 have hS0 : Sep H [] H := Sep.refl
 refine Con.intro Tryz.func29 rfl rfl ?_
 refine AW.seq ?_
 refine AW.region ?_
 refine OpsW.q rfl (q_assign (v := S _) rfl) ?_
 refine OpsW.q rfl (q_assign (v := .int _ _) rfl) ?_
 refine OpsW.nil ?_
 refine SeqP.go ?_
 refine AW.seq ?_
 refine AW.seq ?_
 refine AW.region ?_
 refine OpsW.q rfl (q_move (v := .int _ _) rfl) ?_
 refine OpsW.q rfl (q_eql rfl rfl) ?_
 refine OpsW.nil ?_
 refine SeqP.go ?_
 refine AW.cond rfl (fun h0 => ?_) (fun h0 => ?_)
 ·
  try simp only [z1, z2, z3, z4, z5, z6, z7, z8, z9, z10, z11, z12, z13, z14] at h0
  obtain rfl : suite = 4865 := h0
  rw [slOpen_a]
  refine AW.seq ?_
  refine AW.region ?_
  refine OpsW.q rfl (q_move (v := S _) rfl) ?_
  refine OpsW.q rfl (q_move (v := S _) rfl) ?_
  refine OpsW.q rfl (q_move (v := S _) rfl) ?_
  refine OpsW.q rfl (q_move (v := S _) rfl) ?_
  refine OpsW.q rfl (o_call rfl Tryz.func51 rfl rfl (OpenR_con (by omega) (by omega))) ?_
  refine OpsW.q rfl (q_extract (v := S _) rfl rfl) ?_
  refine OpsW.q rfl (q_extract (v := .int _ _) rfl rfl) ?_
  refine OpsW.q rfl (q_assign (v := S _) rfl) ?_
  refine OpsW.q rfl (q_assign (v := .int _ _) rfl) ?_
  refine OpsW.nil ?_
  refine SeqP.go ?_
  refine AW.ret ?_
  refine SeqP.ret ?_
  refine RetP.mk2 (H' := H) (v1 := S _) (v2 := .int _ _) rfl rfl rfl  hS0.le ?_
  exact ⟨rfl, rfl⟩
 try simp only [z1, z2, z3, z4, z5, z6, z7, z8, z9, z10, z11, z12, z13, z14] at h0
 refine AW.skip ?_
 refine SeqP.go ?_
 refine AW.seq ?_
 refine AW.seq ?_
 refine AW.region ?_
 refine OpsW.q rfl (q_move (v := .int _ _) rfl) ?_
 refine OpsW.q rfl (q_neq rfl rfl) ?_
 refine OpsW.nil ?_
 refine SeqP.go ?_
 refine AW.cond rfl (fun h1 => ?_) (fun h1 => ?_)
 ·
  try simp only [z1, z2, z3, z4, z5, z6, z7, z8, z9, z10, z11, z12, z13, z14] at h1
  rw [slOpen_no _ _ _ _ h0 h1]
  refine AW.seq ?_
  refine AW.region ?_
  refine OpsW.q rfl (q_assign (v := S _) rfl) ?_
  refine OpsW.q rfl (q_assign (v := .int _ _) rfl) ?_
  refine OpsW.nil ?_
  refine SeqP.go ?_
  refine AW.ret ?_
  refine SeqP.ret ?_
  refine RetP.mk2 (H' := H) (v1 := S _) (v2 := .int _ _) rfl rfl rfl  hS0.le ?_
  exact ⟨rfl, rfl⟩
 try simp only [z1, z2, z3, z4, z5, z6, z7, z8, z9, z10, z11, z12, z13, z14] at h1
 obtain rfl : suite = 4867 := h1
 rw [slOpen_b]
 refine AW.skip ?_
 refine SeqP.go ?_
 refine AW.seq ?_
 refine AW.seq ?_
 refine AW.region ?_
 refine OpsW.q rfl (q_move (v := S _) rfl) ?_
 refine OpsW.q rfl (q_lenS Tryz.underlying9 rfl) ?_
 refine OpsW.q rfl (q_neq rfl rfl) ?_
 refine OpsW.qb rfl (q_move (v := .bool _) rfl) ?_
 intro b27 eb27
 refine OpsW.g rfl rfl rfl (fun hB => by simp only [Bool.and_eq_true, beq_iff_eq] at hB; obtain rfl := hB; exact (q_move (v := S _) rfl)) ?_
 refine OpsW.g rfl rfl rfl (fun hB => by simp only [Bool.and_eq_true, beq_iff_eq] at hB; obtain rfl := hB; exact (q_lenS Tryz.underlying9 rfl)) ?_
 refine OpsW.g rfl rfl rfl (fun hB => by simp only [Bool.and_eq_true, beq_iff_eq] at hB; obtain rfl := hB; exact (q_neq rfl rfl)) ?_
 refine OpsW.q rfl (q_or2 rfl rfl rfl) ?_
 refine OpsW.nil ?_
 refine SeqP.go ?_
 refine AW.cond rfl (fun h2 => ?_) (fun h2 => ?_)
 ·
  try simp only [eb27, z1, z2, z3, z4, z5, z6, z7, z8, z9, z10, z11, z12, z13, z14] at h2
  rw [sOpen_key (by omega)]
  refine AW.seq ?_
  refine AW.region ?_
  refine OpsW.q rfl (q_assign (v := S _) rfl) ?_
  refine OpsW.q rfl (q_assign (v := .int _ _) rfl) ?_
  refine OpsW.nil ?_
  refine SeqP.go ?_
  refine AW.ret ?_
  refine SeqP.ret ?_
  refine RetP.mk2 (H' := H) (v1 := S _) (v2 := .int _ _) rfl rfl rfl  hS0.le ?_
  exact ⟨rfl, rfl⟩
 try simp only [eb27, z1, z2, z3, z4, z5, z6, z7, z8, z9, z10, z11, z12, z13, z14] at h2
 have hkn : key.length = 32 ∧ nonce.length = 12 := by omega
 refine AW.skip ?_
 refine SeqP.go ?_
 refine AW.seq ?_
 refine AW.seq ?_
 refine AW.region ?_
 refine OpsW.q rfl (q_move (v := S _) rfl) ?_
 refine OpsW.q rfl (q_lenS Tryz.underlying9 rfl) ?_
 refine OpsW.q rfl (q_lss rfl rfl) ?_
 refine OpsW.nil ?_
 refine SeqP.go ?_
 refine AW.cond rfl (fun h3 => ?_) (fun h3 => ?_)
 ·
  try simp only [eb27, z1, z2, z3, z4, z5, z6, z7, z8, z9, z10, z11, z12, z13, z14] at h3
  rw [sOpen_short hkn (by omega)]
  refine AW.seq ?_
  refine AW.region ?_
  refine OpsW.q rfl (q_assign (v := S _) rfl) ?_
  refine OpsW.q rfl (q_assign (v := .int _ _) rfl) ?_
  refine OpsW.nil ?_
  refine SeqP.go ?_
  refine AW.ret ?_
  refine SeqP.ret ?_
  refine RetP.mk2 (H' := H) (v1 := S _) (v2 := .int _ _) rfl rfl rfl  hS0.le ?_
  exact ⟨rfl, rfl⟩
 try simp only [eb27, z1, z2, z3, z4, z5, z6, z7, z8, z9, z10, z11, z12, z13, z14] at h3
 have h16 : ¬ d.length < 16 := by omega
 refine AW.skip ?_
 refine SeqP.go ?_
 refine AW.seq ?_
 refine AW.seq ?_
 refine AW.region ?_
 refine OpsW.q rfl (q_move (v := S _) rfl) ?_
 refine OpsW.q rfl (q_lenS Tryz.underlying9 rfl) ?_
 refine OpsW.q rfl (q_gtr rfl rfl) ?_
 refine OpsW.qb rfl (q_move (v := .bool _) rfl) ?_
 intro b38 eb38
 refine OpsW.g rfl rfl rfl (fun hB => by simp only [Bool.and_eq_true, beq_iff_eq] at hB; obtain rfl := hB; exact (q_move (v := S _) rfl)) ?_
 refine OpsW.g rfl rfl rfl (fun hB => by simp only [Bool.and_eq_true, beq_iff_eq] at hB; obtain rfl := hB; exact (q_lenS Tryz.underlying9 rfl)) ?_
 refine OpsW.g rfl rfl rfl (fun hB => by simp only [Bool.and_eq_true, beq_iff_eq] at hB; obtain rfl := hB; exact (q_gtr rfl rfl)) ?_
 refine OpsW.q rfl (q_or2 rfl rfl rfl) ?_
 refine OpsW.nil ?_
 refine SeqP.go ?_
 refine AW.cond rfl (fun h4 => ?_) (fun h4 => ?_)
 ·
  try simp only [eb27, eb38, z1, z2, z3, z4, z5, z6, z7, z8, z9, z10, z11, z12, z13, z14] at h4
  rw [sOpen_big hkn h16 (by omega)]
  refine AW.seq ?_
  refine AW.region ?_
  refine OpsW.q rfl (q_assign (v := S _) rfl) ?_
  refine OpsW.q rfl (q_assign (v := .int _ _) rfl) ?_
  refine OpsW.nil ?_
  refine SeqP.go ?_
  refine AW.ret ?_
  refine SeqP.ret ?_
  refine RetP.mk2 (H' := H) (v1 := S _) (v2 := .int _ _) rfl rfl rfl  hS0.le ?_
  exact ⟨rfl, rfl⟩
 try simp only [eb27, eb38, z1, z2, z3, z4, z5, z6, z7, z8, z9, z10, z11, z12, z13, z14] at h4
 have hbd : ¬ (1048576 < b.length ∨ 1048592 < d.length) := by omega
 have htk : (d.take (d.length - 16)).length = d.length - 16 := by rw [List.length_take]; omega
 have hxe := sXor_ok (d := d.take (d.length - 16)) hkn.1 hkn.2 (by omega)
 have htl := sTag_length b (d.take (d.length - 16)) hkn.1 hkn.2
 refine AW.skip ?_
 refine SeqP.go ?_
 refine AW.seq ?_
 refine AW.region ?_
 refine OpsW.q rfl (q_move (v := S _) rfl) ?_
 refine OpsW.q rfl (q_move (v := S _) rfl) ?_
 refine OpsW.q rfl (q_lenS Tryz.underlying9 rfl) ?_
 refine OpsW.q rfl (q_subI rfl rfl (by omega)) ?_
 refine OpsW.q rfl (q_sliceS_hi Tryz.underlying9 rfl rfl (by omega) (by omega)) ?_
 rw [show ((d.length : Int) - 16).toNat = d.length - 16 from by omega]
 refine OpsW.q rfl (q_assign (v := S _) rfl) ?_
 refine OpsW.nil ?_
 refine SeqP.go ?_
 refine AW.seq ?_
 refine AW.seq ?_
 refine AW.drawK [] 10 rfl (by kernel_rfl) ?_
 refine SeqK.q rfl (q_move (v := S _) rfl) ?_
 refine SeqK.q rfl (q_move (v := S _) rfl) ?_
 refine SeqK.q rfl (q_move (v := S _) rfl) ?_
 refine SeqK.q rfl (q_move (v := S _) rfl) ?_
 refine SeqK.q rfl (o_call rfl Tryz.func22 rfl rfl (stagR_con hkn.1 hkn.2 (by omega) (by omega))) ?_
 refine SeqK.q rfl (q_move (v := S _) rfl) ?_
 refine SeqK.q rfl (q_move (v := S _) rfl) ?_
 refine SeqK.q rfl (q_lenS Tryz.underlying9 rfl) ?_
 refine SeqK.q rfl (q_subI rfl rfl (by omega)) ?_
 refine SeqK.q rfl (q_sliceS_lo Tryz.underlying9 rfl rfl (by omega) (by omega)) ?_
 rw [show ((d.length : Int) - 16).toNat = d.length - 16 from by omega]
 refine SeqK.done ?_
 refine OpsW.q rfl (q_neS rfl rfl) ?_
 refine OpsW.nil ?_
 refine SeqP.go ?_
 refine AW.cond rfl (fun h5 => ?_) (fun h5 => ?_)
 ·
  try simp only [eb27, eb38, z1, z2, z3, z4, z5, z6, z7, z8, z9, z10, z11, z12, z13, z14] at h5
  have hne : ¬ sTag key nonce b (d.take (d.length - 16)) = d.drop (d.length - 16) := h5
  rw [sOpen_tag hkn h16 hbd hne]
  refine AW.seq ?_
  refine AW.region ?_
  refine OpsW.q rfl (q_assign (v := S _) rfl) ?_
  refine OpsW.q rfl (q_assign (v := .int _ _) rfl) ?_
  refine OpsW.nil ?_
  refine SeqP.go ?_
  refine AW.ret ?_
  refine SeqP.ret ?_
  refine RetP.mk2 (H' := H) (v1 := S _) (v2 := .int _ _) rfl rfl rfl  hS0.le ?_
  exact ⟨rfl, rfl⟩
 try simp only [eb27, eb38, z1, z2, z3, z4, z5, z6, z7, z8, z9, z10, z11, z12, z13, z14] at h5
 have heq : sTag key nonce b (d.take (d.length - 16)) = d.drop (d.length - 16) := h5
 refine AW.skip ?_
 refine SeqP.go ?_
 refine AW.seq ?_
 refine AW.region ?_
 refine OpsW.q rfl (q_move (v := S _) rfl) ?_
 refine OpsW.q rfl (q_move (v := S _) rfl) ?_
 refine OpsW.q rfl (q_move (v := S _) rfl) ?_
 refine OpsW.q rfl (o_call rfl Tryz.func21 rfl rfl (Ch.xorR_con _ _ _ _ (by omega))) ?_
 rw [Ch.xor_same]
 refine OpsW.q rfl (q_extract (v := S _) rfl rfl) ?_
 refine OpsW.q rfl (q_extract (v := .int _ _) rfl rfl) ?_
 refine OpsW.q rfl (q_assign (v := S _) rfl) ?_
 refine OpsW.q rfl (q_assign (v := .int _ _) rfl) ?_
 refine OpsW.nil ?_
 refine SeqP.go ?_
 refine AW.ret ?_
 refine RetP.mk2 (H' := H) (v1 := S _) (v2 := .int _ _) rfl rfl rfl  hS0.le ?_
 rw [sOpen_ok hkn h16 hbd heq, hxe]
 exact ⟨rfl, rfl⟩
end
end Go.Proofs.YtfpoldogcopmpaaGreatDoor
end
