/-
  The proof's texts, joined, without what the statements do not reach: part 7 of 7. No condition.
-/
import Derived.Test.YtfpoldogcopmpaaDoorRows
import Derived.Test.YtfpoldogcopmpaaDoorCards
import Derived.Test.YtfpoldogcopmpaaDoorTie
import Derived.WalkKit
import Derived.KernelRfl
import Derived.Lib.ConvBytes
import Derived.WalkSpells
import Derived.WalkLawsBesides
import Derived.ProofKit
import Derived.ChangeMaps5
import Derived.ChangeSlices
import Derived.Deep.Strs
import Derived.Handed
import Derived.LaidLaws
import Derived.LaidMore
import Derived.Lay
import Derived.SevenTiedAt
import Derived.Stop.Joined
import Derived.DataElems
import Derived.OpenShut
import Derived.Test.YtfpoldogcopmpaaDoorProg
import Derived.Lib.TrimByte
import Derived.Shelf.Bits.Mul64
import Derived.Shelf.Small.Strs
import Derived.Shelf.Small.Utf8
import Derived.Shelf.Strings.AsciiSet
import Derived.Shelf.Strings.Builder1
import Derived.Shelf.Strings.Builder2
import Derived.Shelf.Strings.BuilderF
import Derived.Shelf.Strings.Prefix
import Derived.Shelf.Strings.Repeat
import Derived.Shelf.Strings.Runes
import Derived.Shelf.Strings.Search1
import Derived.Shelf.Strings.Trim
import Derived.Shelf.Unicode.Decode
import Derived.Shelf.Unicode.DecodeAny
import Derived.Shelf.Unicode.DecodeLast
import Derived.Shelf.Unicode.DecodeSlow
import Derived.Test.YtfpoldogcopmpaaDoorKf
section
namespace Go.Proofs.YtfpoldogcopmpaaDoor
open Go Go.RowKit D
set_option linter.unusedVariables false
set_option linter.unusedSimpArgs false
set_option maxRecDepth 100000
set_option maxHeartbeats 2000000
section
variable {w0 : World} {H : Hp} {H0 : Hp}
theorem bSealB_e {b : Nat} {suite : Int} {key iv : List UInt8} {ss : List (List UInt8)} {pad : Int} {j : Nat} (hS0 : Sep H0 [.blk b (bxBlk ⟨suite, key, iv, (j : Int)⟩)] H) (h : BoxOk ⟨suite, key, iv, 0⟩) (hj : j ≤ 20) (hp : 0 ≤ pad ∧ pad ≤ 255) (ht : (ss.getD j []).length ≤ 500) :
    Con Tryd.prog w0 6 #[.pointer (some ⟨b, 0, none⟩), .int .i64 (20 + (j : Int) % 4), S (ss.getD j []), .int .i64 pad] H (fun v H' => v = .tuple #[S (bkHead ss pad j ++ bkL suite key iv ss pad j), .int .i64 0] ∧ Sep H0 [.blk b (bxBlk ⟨suite, key, iv, ((j + 1 : Nat) : Int)⟩)] H') := by
  obtain ⟨e1, e2, _⟩ := bk_seal h hj hp ht
  have := bSeal_s (w0 := w0) (plain := ss.getD j []) hS0 (bk_ok h hj) (20 + (j : Int) % 4) pad (by unfold maxLen; omega)
  rw [e1, e2] at this
  exact this
theorem bOpenB_e {b : Nat} {suite : Int} {key iv : List UInt8} {ss : List (List UInt8)} {pad : Int} {j : Nat} (hS0 : Sep H0 [.blk b (bxBlk ⟨suite, key, iv, (j : Int)⟩)] H) (h : BoxOk ⟨suite, key, iv, 0⟩) (hj : j ≤ 20) (hp : 0 ≤ pad ∧ pad ≤ 255) (ht : (ss.getD j []).length ≤ 500) :
    Con Tryd.prog w0 7 #[.pointer (some ⟨b, 0, none⟩), S (bkL suite key iv ss pad j)] H (fun v H' => v = .tuple #[.int .i64 (20 + (j : Int) % 4), S (ss.getD j []), .int .i64 0] ∧ Sep H0 [.blk b (bxBlk ⟨suite, key, iv, ((j + 1 : Nat) : Int)⟩)] H') := by
  obtain ⟨e1, e2⟩ := bk_open h hj hp ht
  have := bOpen_s (w0 := w0) (body := bkL suite key iv ss pad j) hS0 (bk_ok h hj)
  rw [e1, e2] at this
  exact this
theorem bOpenX_e {b : Nat} {suite : Int} {key iv : List UInt8} {ss : List (List UInt8)} {pad : Int} {j : Nat} (hS0 : Sep H0 [.blk b (bxBlk ⟨suite, key, iv, (j : Int)⟩)] H) (h : BoxOk ⟨suite, key, iv, 0⟩) (hj : j ≤ 15) (hp : 0 ≤ pad ∧ pad ≤ 255) (ht : (ss.getD j []).length ≤ 500) :
    Con Tryd.prog w0 7 #[.pointer (some ⟨b, 0, none⟩), S ((bkL suite key iv ss pad j).set ((bkL suite key iv ss pad j).length - 1 - j) ((bkL suite key iv ss pad j).getD ((bkL suite key iv ss pad j).length - 1 - j) 0 ^^^ 1))] H (fun v H' => v = .tuple #[.int .i64 0, S [], .int .i64 20] ∧ Sep H0 [.blk b (bxBlk ⟨suite, key, iv, (j : Int)⟩)] H') := by
  obtain ⟨e1, e2⟩ := bk_other h hj hp ht
  have := bOpen_s (w0 := w0) (body := (bkL suite key iv ss pad j).set ((bkL suite key iv ss pad j).length - 1 - j) ((bkL suite key iv ss pad j).getD ((bkL suite key iv ss pad j).length - 1 - j) 0 ^^^ 1)) hS0 (bk_ok h (by omega))
  rw [e1, e2] at this
  exact this
theorem back_con {pa : Option Addr} {ca : Nat} (suite : Int) (key iv : List UInt8) (ss : List (List UInt8)) (p : UInt8) (hpa : CellsAt w0 pa ss.length fun j => S (ss.getD j [])) (hsm : ss.length ≤ maxLen) : Con Tryd.prog w0 4 #[.agg #[.int .i64 suite, S key, S iv], .slice pa ss.length ca, BV p] H (fun v H' => v = .bool true ∧ H' = H) := by
  have hS0 : Sep H [] H := Sep.refl
  unfold maxLen at hsm
  obtain ⟨pad, hpd⟩ : ∃ pad : Int, pad = (p.toNat : Int) := ⟨_, rfl⟩
  have hpad : 0 ≤ pad ∧ pad ≤ 255 := by have := p.toNat_lt; omega
  refine Con.intro Tryd.func4 rfl rfl ?_
  refine AW.seq ?_
  refine AW.region ?_
  refine OpsW.m rfl (s_box (v := .agg _) hS0 rfl rfl) ?_
  rintro _ H1 ⟨b3, rfl, hS1⟩
  clear hS0
  refine OpsW.q rfl (q_assign (v := .bool _) rfl) ?_
  refine OpsW.nil ?_
  refine SeqP.go ?_
  refine AW.seq ?_
  by_cases hz : boxE suite key iv = 0
  ·
    have hok := box_ok hz
    refine AW.region ?_
    refine OpsW.q rfl (q_fieldAddr (sz := 0) Tryd.underlying35 rfl (by kernel_rfl) rfl) ?_
    refine OpsW.q rfl (q_load (v := .int _ _) (by kernel_rfl) rfl (hS1.blk at0) rfl) ?_
    refine OpsW.q rfl (q_fieldAddr (sz := 0) Tryd.underlying35 rfl (by kernel_rfl) rfl) ?_
    refine OpsW.q rfl (q_load (v := S _) (by kernel_rfl) rfl (hS1.blk at0) rfl) ?_
    refine OpsW.q rfl (q_fieldAddr (sz := 0) Tryd.underlying35 rfl (by kernel_rfl) rfl) ?_
    refine OpsW.q rfl (q_load (v := S _) (by kernel_rfl) rfl (hS1.blk at0) rfl) ?_
    refine OpsW.m rfl (o_call rfl Tryd.func11 rfl rfl (NewBox_ok hz)) ?_
    rintro _ H2 ⟨b30, rfl, hR2⟩
    have hS2 := hS1.join hR2
    simp only [List.cons_append, List.nil_append] at hS2
    clear hR2 hS1
    refine OpsW.q rfl (q_move (v := .tuple _) rfl) ?_
    refine OpsW.q rfl (q_extract (v := .pointer _) rfl rfl) ?_
    refine OpsW.q rfl (q_extract (v := .int _ _) rfl rfl) ?_
    refine OpsW.q rfl (q_assign (v := .pointer _) rfl) ?_
    refine OpsW.q rfl (q_assign (v := .int _ _) rfl) ?_
    refine OpsW.nil ?_
    refine SeqP.go ?_
    refine AW.seq ?_
    refine AW.region ?_
    refine OpsW.q rfl (q_fieldAddr (sz := 0) Tryd.underlying35 rfl (by kernel_rfl) rfl) ?_
    refine OpsW.q rfl (q_load (v := .int _ _) (by kernel_rfl) rfl (hS2.blk at1) rfl) ?_
    refine OpsW.q rfl (q_fieldAddr (sz := 0) Tryd.underlying35 rfl (by kernel_rfl) rfl) ?_
    refine OpsW.q rfl (q_load (v := S _) (by kernel_rfl) rfl (hS2.blk at1) rfl) ?_
    refine OpsW.q rfl (q_fieldAddr (sz := 0) Tryd.underlying35 rfl (by kernel_rfl) rfl) ?_
    refine OpsW.q rfl (q_load (v := S _) (by kernel_rfl) rfl (hS2.blk at1) rfl) ?_
    refine OpsW.m rfl (o_call rfl Tryd.func11 rfl rfl (NewBox_ok hz)) ?_
    rintro _ H3 ⟨b40, rfl, hR3⟩
    have hS3 := hS2.join hR3
    simp only [List.cons_append, List.nil_append] at hS3
    clear hR3 hS2
    refine OpsW.q rfl (q_move (v := .tuple _) rfl) ?_
    refine OpsW.q rfl (q_extract (v := .pointer _) rfl rfl) ?_
    refine OpsW.q rfl (q_extract (v := .int _ _) rfl rfl) ?_
    refine OpsW.q rfl (q_assign (v := .pointer _) rfl) ?_
    refine OpsW.q rfl (q_assign (v := .int _ _) rfl) ?_
    refine OpsW.nil ?_
    refine SeqP.go ?_
    refine AW.seq ?_
    refine AW.seq ?_
    refine AW.region ?_
    refine OpsW.q rfl (q_move (v := .int _ _) rfl) ?_
    refine OpsW.q rfl (q_neq rfl rfl) ?_
    refine OpsW.qb rfl (q_move (v := .bool _) rfl) ?_
    intro b45 eb45
    refine OpsW.g rfl rfl rfl (fun hB => by simp only [Bool.and_eq_true, beq_iff_eq] at hB; obtain rfl := hB; exact (q_move (v := .int _ _) rfl)) ?_
    refine OpsW.g rfl rfl rfl (fun hB => by simp only [Bool.and_eq_true, beq_iff_eq] at hB; obtain rfl := hB; exact (q_neq rfl rfl)) ?_
    refine OpsW.q rfl (q_or2 rfl rfl rfl) ?_
    refine OpsW.qb rfl (q_move (v := .bool _) rfl) ?_
    intro b49 eb49
    refine OpsW.g rfl rfl rfl (fun hB => by simp only [Bool.and_eq_true, beq_iff_eq] at hB; obtain rfl := hB; exact (q_move (v := .slice _ _ _) rfl)) ?_
    refine OpsW.g rfl rfl rfl (fun hB => by simp only [Bool.and_eq_true, beq_iff_eq] at hB; obtain rfl := hB; exact (q_lenV Tryd.underlying36 rfl)) ?_
    refine OpsW.g rfl rfl rfl (fun hB => by simp only [Bool.and_eq_true, beq_iff_eq] at hB; obtain rfl := hB; exact (q_gtr rfl rfl)) ?_
    refine OpsW.q rfl (q_or2 rfl rfl rfl) ?_
    refine OpsW.nil ?_
    refine SeqP.go ?_
    refine AW.cond rfl (fun h0 => ?_) (fun h0 => ?_)
    ·
      try simp only [eb45, eb49, decide_eq_true_eq, decide_eq_false_iff_not, Bool.or_eq_true, Bool.and_eq_true, Bool.or_eq_false_iff, Bool.and_eq_false_imp, Bool.not_eq_true', Bool.not_eq_false', ne_eq, Decidable.not_not, Int.not_lt, Int.not_le, Bool.not_eq_true, Bool.not_eq_false] at h0
      refine AW.seq ?_
      refine AW.region ?_
      refine OpsW.q rfl (q_move (v := .int _ _) rfl) ?_
      refine OpsW.q rfl (q_move (v := .int _ _) rfl) ?_
      refine OpsW.q rfl (q_eql rfl rfl) ?_
      refine OpsW.qb rfl (q_move (v := .bool _) rfl) ?_
      intro b57 eb57
      refine OpsW.g rfl rfl rfl (fun hB => by simp only [Bool.and_eq_true, beq_iff_eq] at hB; obtain rfl := hB; exact (o_call rfl Tryd.func10 rfl rfl (awake_con))) ?_
      refine OpsW.q rfl (q_and2 rfl rfl rfl) ?_
      refine OpsW.q rfl (q_assign (v := .bool _) rfl) ?_
      refine OpsW.nil ?_
      refine SeqP.go ?_
      refine AW.ret ?_
      refine SeqP.ret ?_
      refine RetP.mk1 (H' := H) (v1 := .bool _) rfl rfl  hS3.le ?_
      refine ⟨?_, rfl⟩
      simp_all
    try simp only [eb45, eb49, decide_eq_true_eq, decide_eq_false_iff_not, Bool.or_eq_true, Bool.and_eq_true, Bool.or_eq_false_iff, Bool.and_eq_false_imp, Bool.not_eq_true', Bool.not_eq_false', ne_eq, Decidable.not_not, Int.not_lt, Int.not_le, Bool.not_eq_true, Bool.not_eq_false] at h0
    have hin : ss.length ≤ 10 := by simp_all <;> omega
    refine AW.skip ?_
    refine SeqP.go ?_
    refine AW.seq ?_
    refine AW.region ?_
    refine OpsW.q rfl (q_assign (v := .slice _ _ _) rfl) ?_
    refine OpsW.nil ?_
    refine SeqP.go ?_
    refine AW.seq ?_
    refine AW.seq ?_
    refine AW.region ?_
    refine OpsW.q rfl (q_assign (v := .int _ _) rfl) ?_
    refine OpsW.nil ?_
    refine SeqP.go ?_
    refine AW.block ?_
    replace hS3 := hS3.nil (el := 9) (sz := 1)
    refine AW.loop (fun m_ e_ H_ => ∃ (i : Nat) (vo : Value) (e0 : Env), m_ = ss.length - i ∧ (i ≤ ss.length ∧ ∀ j, j < i → (ss.getD j []).length ≤ 500) ∧ e_ = upds e0 [(1, .slice pa ss.length ca), (2, BV p), (7, .pointer (some ⟨b30, 0, none⟩)), (9, .pointer (some ⟨b40, 0, none⟩)), (11, vo), (12, .int .i64 (i : Int))] ∧ Sep H [.vec vo 9 1 i (strs (bkAll suite key iv ss pad i)), .blk b40 (bxBlk ⟨suite, key, iv, 0⟩), .blk b30 (bxBlk ⟨suite, key, iv, (i : Int)⟩), .blk b3 ⟨[.int .i64 suite, S key, S iv], 3, 35⟩] H_) _ ⟨0, nilV, _, rfl, ⟨Nat.zero_le _, fun j hj => by omega⟩, Slots.eq ⟨(by first | rfl | exact i64_int (by omega) (by omega) (by omega) | assumption), (by first | rfl | exact i64_int (by omega) (by omega) (by omega) | assumption), (by first | rfl | exact i64_int (by omega) (by omega) (by omega) | assumption), (by first | rfl | exact i64_int (by omega) (by omega) (by omega) | assumption), (by first | rfl | exact i64_int (by omega) (by omega) (by omega) | assumption), (by first | rfl | exact i64_int (by omega) (by omega) (by omega) | assumption),  trivial⟩, (by rw [bkAll_zero]; exact hS3)⟩ ?_
    rintro m_ _ Hl0 ⟨i, vo, e0, rfl, ⟨hi, hf⟩, rfl, hSl0⟩
    try clear hS3
    refine AW.seq ?_
    refine AW.seq ?_
    refine AW.region ?_
    refine OpsW.q rfl (q_move (v := .int _ _) rfl) ?_
    refine OpsW.q rfl (q_move (v := .slice _ _ _) rfl) ?_
    refine OpsW.q rfl (q_lenV Tryd.underlying36 rfl) ?_
    refine OpsW.q rfl (q_lss rfl rfl) ?_
    refine OpsW.nil ?_
    refine SeqP.go ?_
    refine AW.cond2 rfl (fun h1 => ?_) (fun h1 => ?_)
    ·
      try simp only [eb45, eb49, decide_eq_true_eq, decide_eq_false_iff_not, Bool.or_eq_true, Bool.and_eq_true, Bool.or_eq_false_iff, Bool.and_eq_false_imp, Bool.not_eq_true', Bool.not_eq_false', ne_eq, Decidable.not_not, Int.not_lt, Int.not_le, Bool.not_eq_true, Bool.not_eq_false] at h1
      refine AW.exit ?_
      refine SeqP.exit ?_
      refine LoopP.exit ?_
      obtain rfl : i = ss.length := by omega
      have hall := hf
      refine BlockP.here ?_
      refine SeqP.go ?_
      refine AW.seq ?_
      refine AW.seq ?_
      refine AW.region ?_
      refine OpsW.q rfl (q_assign (v := .int _ _) rfl) ?_
      refine OpsW.nil ?_
      refine SeqP.go ?_
      refine AW.block ?_
      refine AW.loop (fun m_ e_ H_ => ∃ (i : Nat) (e0 : Env), m_ = ss.length - i ∧ (i ≤ ss.length) ∧ e_ = upds e0 [(1, .slice pa ss.length ca), (7, .pointer (some ⟨b30, 0, none⟩)), (9, .pointer (some ⟨b40, 0, none⟩)), (11, vo), (15, .int .i64 (i : Int))] ∧ Sep H [.vec vo 9 1 ss.length (strs (bkAll suite key iv ss pad ss.length)), .blk b40 (bxBlk ⟨suite, key, iv, (i : Int)⟩), .blk b30 (bxBlk ⟨suite, key, iv, (ss.length : Int)⟩), .blk b3 ⟨[.int .i64 suite, S key, S iv], 3, 35⟩] H_) _ ⟨0, _, rfl, (by omega), Slots.eq ⟨(by first | rfl | exact i64_int (by omega) (by omega) (by omega) | assumption), (by first | rfl | exact i64_int (by omega) (by omega) (by omega) | assumption), (by first | rfl | exact i64_int (by omega) (by omega) (by omega) | assumption), (by first | rfl | exact i64_int (by omega) (by omega) (by omega) | assumption), (by first | rfl | exact i64_int (by omega) (by omega) (by omega) | assumption),  trivial⟩, hSl0⟩ ?_
      rintro m_ _ Hl1 ⟨i, e0, rfl, hf, rfl, hSl1⟩
      try clear hSl0
      have hbl := bkAll_length (suite := suite) (key := key) (iv := iv) (ss := ss) (pad := pad) ss.length
      refine AW.seq ?_
      refine AW.seq ?_
      refine AW.region ?_
      refine OpsW.q rfl (q_move (v := .int _ _) rfl) ?_
      refine OpsW.q rfl (q_move (v := vo) rfl) ?_
      refine OpsW.q rfl (q_lenVec Tryd.underlying36 rfl (hSl1.vec at0)) ?_
      refine OpsW.q rfl (q_lss rfl rfl) ?_
      refine OpsW.nil ?_
      refine SeqP.go ?_
      refine AW.cond2 rfl (fun h4 => ?_) (fun h4 => ?_)
      ·
        try simp only [eb45, eb49, decide_eq_true_eq, decide_eq_false_iff_not, Bool.or_eq_true, Bool.and_eq_true, Bool.or_eq_false_iff, Bool.and_eq_false_imp, Bool.not_eq_true', Bool.not_eq_false', ne_eq, Decidable.not_not, Int.not_lt, Int.not_le, Bool.not_eq_true, Bool.not_eq_false] at h4
        refine AW.exit ?_
        refine SeqP.exit ?_
        refine LoopP.exit ?_
        refine BlockP.here ?_
        refine SeqP.go ?_
        refine AW.seq ?_
        refine AW.region ?_
        refine OpsW.q rfl (q_move (v := .pointer _) rfl) ?_
        refine OpsW.q rfl (o_call rfl Tryd.func9 rfl rfl (Count_con (hSl1.blk at2))) ?_
        refine OpsW.q rfl (q_move (v := .slice _ _ _) rfl) ?_
        refine OpsW.q rfl (q_lenV Tryd.underlying36 rfl) ?_
        refine OpsW.q rfl (q_eql rfl rfl) ?_
        refine OpsW.qb rfl (q_move (v := .bool _) rfl) ?_
        intro b186 eb186
        refine OpsW.g rfl rfl rfl (fun hB => by simp only [Bool.and_eq_true, beq_iff_eq] at hB; obtain rfl := hB; exact (o_call rfl Tryd.func10 rfl rfl (awake_con))) ?_
        refine OpsW.q rfl (q_and2 rfl rfl rfl) ?_
        refine OpsW.q rfl (q_assign (v := .bool _) rfl) ?_
        refine OpsW.nil ?_
        refine SeqP.go ?_
        refine AW.ret ?_
        refine RetP.mk1 (H' := H) (v1 := .bool _) rfl rfl  hSl1.le ?_
        refine ⟨?_, rfl⟩
        simp_all
      try simp only [eb45, eb49, decide_eq_true_eq, decide_eq_false_iff_not, Bool.or_eq_true, Bool.and_eq_true, Bool.or_eq_false_iff, Bool.and_eq_false_imp, Bool.not_eq_true', Bool.not_eq_false', ne_eq, Decidable.not_not, Int.not_lt, Int.not_le, Bool.not_eq_true, Bool.not_eq_false] at h4
      refine AW.skip ?_
      refine SeqP.go ?_
      refine AW.seq ?_
      refine AW.block ?_
      refine AW.seq ?_
      refine AW.region ?_
      refine OpsW.q rfl (q_move (v := vo) rfl) ?_
      refine OpsW.q rfl (q_move (v := .int _ _) rfl) ?_
      refine OpsW.q rfl (q_indexV1 (hSl1.vec at0) Tryd.underlying36 (by kernel_rfl) rfl rfl (by first | omega | decide) (by first | omega | decide)) ?_
      refine OpsW.q rfl (q_loadVS (hSl1.vec at0) (by kernel_rfl) rfl (by first | (with_reducible assumption) | omega | (unfold maxLen; omega) | (simp only [nums_length, List.length_set, List.length_replicate, List.length_take, List.length_drop, List.length_append, List.length_cons, List.length_nil, ofB_length, toB_length]; omega) | (simp only [nums_length, List.length_set, List.length_replicate, List.length_take, List.length_drop, List.length_append, List.length_cons, List.length_nil, ofB_length, toB_length]; unfold maxLen; omega) | (simp; done) | (simp; omega) | rfl | decide)) ?_
      rw [Int.toNat_natCast, bkAll_get (by omega)]
      have htx : (ss.getD i []).length ≤ 500 := hall i (by omega)
      obtain ⟨g1, g2, g3⟩ := bk_seal (ss := ss) (j := i) hok (by omega) hpad htx
      refine OpsW.m rfl (s_bytes hSl1 rfl Tryd.underlying39 Tryd.underlying5 rfl (by first | (with_reducible assumption) | omega | (unfold maxLen; omega) | (simp only [nums_length, List.length_set, List.length_replicate, List.length_take, List.length_drop, List.length_append, List.length_cons, List.length_nil, ofB_length, toB_length]; omega) | (simp only [nums_length, List.length_set, List.length_replicate, List.length_take, List.length_drop, List.length_append, List.length_cons, List.length_nil, ofB_length, toB_length]; unfold maxLen; omega) | (simp; done) | (simp; omega) | rfl | decide)) ?_
      rintro v120 H4 hS4
      clear hSl1
      refine OpsW.q rfl (q_assign (v := v120) rfl) ?_
      refine OpsW.nil ?_
      refine SeqP.go ?_
      refine AW.seq ?_
      refine AW.region ?_
      refine OpsW.q rfl (q_move (v := v120) rfl) ?_
      refine OpsW.q rfl (q_move (v := v120) rfl) ?_
      refine OpsW.q rfl (q_lenVec Tryd.underlying39 rfl (hS4.vec at0)) ?_
      refine OpsW.q rfl (q_subI rfl rfl (by omega)) ?_
      refine OpsW.q rfl (q_move (v := .int _ _) rfl) ?_
      refine OpsW.q rfl (q_subI rfl rfl (by omega)) ?_
      refine OpsW.q rfl (q_indexV1 (hS4.vec at0) Tryd.underlying39 (by kernel_rfl) rfl rfl (by first | omega | decide) (by first | omega | decide)) ?_
      refine OpsW.q rfl (q_loadVB (hS4.vec at0) (by kernel_rfl) rfl (by first | (with_reducible assumption) | omega | (unfold maxLen; omega) | (simp only [nums_length, List.length_set, List.length_replicate, List.length_take, List.length_drop, List.length_append, List.length_cons, List.length_nil, ofB_length, toB_length]; omega) | (simp only [nums_length, List.length_set, List.length_replicate, List.length_take, List.length_drop, List.length_append, List.length_cons, List.length_nil, ofB_length, toB_length]; unfold maxLen; omega) | (simp; done) | (simp; omega) | rfl | decide)) ?_
      refine OpsW.q rfl (q_xorB (b := 1) rfl rfl) ?_
      refine OpsW.q rfl (q_indexV1 (hS4.vec at0) Tryd.underlying39 (by kernel_rfl) rfl rfl (by first | omega | decide) (by first | omega | decide)) ?_
      refine OpsW.ms (s_storeVB hS4 at0 (by kernel_rfl) rfl rfl (by first | (with_reducible assumption) | omega | (unfold maxLen; omega) | (simp only [nums_length, List.length_set, List.length_replicate, List.length_take, List.length_drop, List.length_append, List.length_cons, List.length_nil, ofB_length, toB_length]; omega) | (simp only [nums_length, List.length_set, List.length_replicate, List.length_take, List.length_drop, List.length_append, List.length_cons, List.length_nil, ofB_length, toB_length]; unfold maxLen; omega) | (simp; done) | (simp; omega) | rfl | decide)) ?_
      rintro _ H5 ⟨rfl, hS5⟩
      clear hS4
      refine OpsW.nil ?_
      refine SeqP.go ?_
      refine AW.seq ?_
      refine AW.region ?_
      refine OpsW.q rfl (q_move (v := .pointer _) rfl) ?_
      refine OpsW.q rfl (q_move (v := v120) rfl) ?_
      refine OpsW.q rfl (q_stringB (hS5.vec at0) Tryd.underlying39 Tryd.underlying5 Tryd.underlying9 rfl) ?_
      rw [show ((((bkL suite key iv ss pad i).length : Nat) : Int) - 1 - (i : Int)).toNat = (bkL suite key iv ss pad i).length - 1 - i from by omega]
      obtain ⟨Hf6, le6, hA6, hB6⟩ := hS5.framed at2
      refine OpsW.m rfl (o_call rfl Tryd.func7 rfl rfl (bOpenX_e hA6 hok (by omega) hpad htx)) ?_
      rintro _ H6 ⟨rfl, hR6⟩
      have hS6 := hB6 _ _ hR6
      clear hR6 hB6 hA6
      clear hS5
      refine OpsW.q rfl (q_move (v := .tuple _) rfl) ?_
      refine OpsW.q rfl (q_extract (v := .int _ _) rfl rfl) ?_
      refine OpsW.q rfl (q_extract (v := S _) rfl rfl) ?_
      refine OpsW.q rfl (q_extract (v := .int _ _) rfl rfl) ?_
      refine OpsW.q rfl (q_assign (v := .int _ _) rfl) ?_
      refine OpsW.q rfl (q_assign (v := S _) rfl) ?_
      refine OpsW.q rfl (q_assign (v := .int _ _) rfl) ?_
      refine OpsW.nil ?_
      refine SeqP.go ?_
      refine AW.seq ?_
      refine AW.seq ?_
      refine AW.region ?_
      refine OpsW.q rfl (q_move (v := .int _ _) rfl) ?_
      refine OpsW.q rfl (q_neq rfl rfl) ?_
      refine OpsW.qb rfl (q_move (v := .bool _) rfl) ?_
      intro b141 eb141
      refine OpsW.g rfl rfl rfl (fun hB => by simp only [Bool.and_eq_true, beq_iff_eq] at hB; obtain rfl := hB; exact (q_move (v := .pointer _) rfl)) ?_
      refine OpsW.g rfl rfl rfl (fun hB => by simp only [Bool.and_eq_true, beq_iff_eq] at hB; obtain rfl := hB; exact (o_call rfl Tryd.func9 rfl rfl (Count_con (hS6.blk at2)))) ?_
      refine OpsW.g rfl rfl rfl (fun hB => by simp only [Bool.and_eq_true, beq_iff_eq] at hB; obtain rfl := hB; exact (q_move (v := .int _ _) rfl)) ?_
      refine OpsW.g rfl rfl rfl (fun hB => by simp only [Bool.and_eq_true, beq_iff_eq] at hB; obtain rfl := hB; exact (q_neq rfl rfl)) ?_
      refine OpsW.q rfl (q_or2 rfl rfl rfl) ?_
      refine OpsW.nil ?_
      refine SeqP.go ?_
      refine AW.cond rfl (fun h5 => ?_) (fun h5 => ?_)
      ·
        exfalso
        try simp only [eb45, eb49, eb141, decide_eq_true_eq, decide_eq_false_iff_not, Bool.or_eq_true, Bool.and_eq_true, Bool.or_eq_false_iff, Bool.and_eq_false_imp, Bool.not_eq_true', Bool.not_eq_false', ne_eq, Decidable.not_not, Int.not_lt, Int.not_le, Bool.not_eq_true, Bool.not_eq_false] at h5
        simp_all
      try simp only [eb45, eb49, eb141, decide_eq_true_eq, decide_eq_false_iff_not, Bool.or_eq_true, Bool.and_eq_true, Bool.or_eq_false_iff, Bool.and_eq_false_imp, Bool.not_eq_true', Bool.not_eq_false', ne_eq, Decidable.not_not, Int.not_lt, Int.not_le, Bool.not_eq_true, Bool.not_eq_false] at h5
      refine AW.skip ?_
      refine SeqP.go ?_
      refine AW.seq ?_
      refine AW.region ?_
      refine OpsW.q rfl (q_move (v := .pointer _) rfl) ?_
      refine OpsW.q rfl (q_move (v := vo) rfl) ?_
      refine OpsW.q rfl (q_move (v := .int _ _) rfl) ?_
      refine OpsW.q rfl (q_indexV1 (hS6.vec at1) Tryd.underlying36 (by kernel_rfl) rfl rfl (by first | omega | decide) (by first | omega | decide)) ?_
      refine OpsW.q rfl (q_loadVS (hS6.vec at1) (by kernel_rfl) rfl (by first | (with_reducible assumption) | omega | (unfold maxLen; omega) | (simp only [nums_length, List.length_set, List.length_replicate, List.length_take, List.length_drop, List.length_append, List.length_cons, List.length_nil, ofB_length, toB_length]; omega) | (simp only [nums_length, List.length_set, List.length_replicate, List.length_take, List.length_drop, List.length_append, List.length_cons, List.length_nil, ofB_length, toB_length]; unfold maxLen; omega) | (simp; done) | (simp; omega) | rfl | decide)) ?_
      rw [Int.toNat_natCast, bkAll_get (by omega)]
      obtain ⟨Hf7, le7, hA7, hB7⟩ := hS6.framed at2
      refine OpsW.m rfl (o_call rfl Tryd.func7 rfl rfl (bOpenB_e hA7 hok (by omega) hpad htx)) ?_
      rintro _ H7 ⟨rfl, hR7⟩
      have hS7 := hB7 _ _ hR7
      clear hR7 hB7 hA7
      clear hS6
      refine OpsW.q rfl (q_move (v := .tuple _) rfl) ?_
      refine OpsW.q rfl (q_extract (v := .int _ _) rfl rfl) ?_
      refine OpsW.q rfl (q_extract (v := S _) rfl rfl) ?_
      refine OpsW.q rfl (q_extract (v := .int _ _) rfl rfl) ?_
      refine OpsW.q rfl (q_assign (v := .int _ _) rfl) ?_
      refine OpsW.q rfl (q_assign (v := S _) rfl) ?_
      refine OpsW.q rfl (q_assign (v := .int _ _) rfl) ?_
      refine OpsW.nil ?_
      refine SeqP.go ?_
      refine AW.seq ?_
      refine AW.region ?_
      refine OpsW.q rfl (q_move (v := .int _ _) rfl) ?_
      refine OpsW.q rfl (q_neq rfl rfl) ?_
      refine OpsW.qb rfl (q_move (v := .bool _) rfl) ?_
      intro b159 eb159
      refine OpsW.g rfl rfl rfl (fun hB => by simp only [Bool.and_eq_true, beq_iff_eq] at hB; obtain rfl := hB; exact (q_move (v := .int _ _) rfl)) ?_
      refine OpsW.g rfl rfl rfl (fun hB => by simp only [Bool.and_eq_true, beq_iff_eq] at hB; obtain rfl := hB; exact (q_move (v := .int _ _) rfl)) ?_
      refine OpsW.g rfl rfl rfl (fun hB => by simp only [Bool.and_eq_true, beq_iff_eq] at hB; obtain rfl := hB; (try simp only [eb45, eb49, eb141, Bool.true_eq, Bool.false_eq, decide_eq_true_eq, Bool.and_eq_true, Bool.or_eq_true, Bool.or_eq_false_iff, Bool.not_eq_true', decide_eq_false_iff_not, Int.not_lt, Int.not_le] at eb159); exact (q_remI rfl rfl (by omega))) ?_
      refine OpsW.g rfl rfl rfl (fun hB => by simp only [Bool.and_eq_true, beq_iff_eq] at hB; obtain rfl := hB; (try simp only [eb45, eb49, eb141, Bool.true_eq, Bool.false_eq, decide_eq_true_eq, Bool.and_eq_true, Bool.or_eq_true, Bool.or_eq_false_iff, Bool.not_eq_true', decide_eq_false_iff_not, Int.not_lt, Int.not_le] at eb159); exact (q_addI rfl rfl (by omega))) ?_
      refine OpsW.g rfl rfl rfl (fun hB => by simp only [Bool.and_eq_true, beq_iff_eq] at hB; obtain rfl := hB; exact (q_neq rfl rfl)) ?_
      refine OpsW.q rfl (q_or2 rfl rfl rfl) ?_
      refine OpsW.qb rfl (q_move (v := .bool _) rfl) ?_
      intro b166 eb166
      refine OpsW.g rfl rfl rfl (fun hB => by simp only [Bool.and_eq_true, beq_iff_eq] at hB; obtain rfl := hB; exact (q_move (v := S _) rfl)) ?_
      refine OpsW.g rfl rfl rfl (fun hB => by simp only [Bool.and_eq_true, beq_iff_eq] at hB; obtain rfl := hB; exact (q_move (v := .slice _ _ _) rfl)) ?_
      refine OpsW.g rfl rfl rfl (fun hB => by simp only [Bool.and_eq_true, beq_iff_eq] at hB; obtain rfl := hB; exact (q_move (v := .int _ _) rfl)) ?_
      refine OpsW.g rfl rfl rfl (fun hB => by simp only [Bool.and_eq_true, beq_iff_eq] at hB; obtain rfl := hB; (try simp only [eb45, eb49, eb141, eb159, Bool.true_eq, Bool.false_eq, decide_eq_true_eq, Bool.and_eq_true, Bool.or_eq_true, Bool.or_eq_false_iff, Bool.not_eq_true', decide_eq_false_iff_not, Int.not_lt, Int.not_le] at eb166); exact (q_indexAddrO Tryd.underlying36 (by kernel_rfl) rfl rfl (by first | omega | decide) (by first | omega | decide) hpa)) ?_
      refine OpsW.g rfl rfl rfl (fun hB => by simp only [Bool.and_eq_true, beq_iff_eq] at hB; obtain rfl := hB; (try simp only [eb45, eb49, eb141, eb159, Bool.true_eq, Bool.false_eq, decide_eq_true_eq, Bool.and_eq_true, Bool.or_eq_true, Bool.or_eq_false_iff, Bool.not_eq_true', decide_eq_false_iff_not, Int.not_lt, Int.not_le] at eb166); exact (q_loadO (by kernel_rfl) rfl hpa (by first | omega | decide))) ?_
      rw [Int.toNat_natCast]
      refine OpsW.g rfl rfl rfl (fun hB => by simp only [Bool.and_eq_true, beq_iff_eq] at hB; obtain rfl := hB; exact (q_neS rfl rfl)) ?_
      refine OpsW.q rfl (q_or2 rfl rfl rfl) ?_
      refine OpsW.qb rfl (q_move (v := .bool _) rfl) ?_
      intro b174 eb174
      refine OpsW.g rfl rfl rfl (fun hB => by simp only [Bool.and_eq_true, beq_iff_eq] at hB; obtain rfl := hB; exact (q_move (v := .pointer _) rfl)) ?_
      refine OpsW.g rfl rfl rfl (fun hB => by simp only [Bool.and_eq_true, beq_iff_eq] at hB; obtain rfl := hB; exact (o_call rfl Tryd.func9 rfl rfl (Count_con (hS7.blk at2)))) ?_
      refine OpsW.g rfl rfl rfl (fun hB => by simp only [Bool.and_eq_true, beq_iff_eq] at hB; obtain rfl := hB; exact (q_move (v := .int _ _) rfl)) ?_
      refine OpsW.g rfl rfl rfl (fun hB => by simp only [Bool.and_eq_true, beq_iff_eq] at hB; obtain rfl := hB; (try simp only [eb45, eb49, eb141, eb159, eb166, Bool.true_eq, Bool.false_eq, decide_eq_true_eq, Bool.and_eq_true, Bool.or_eq_true, Bool.or_eq_false_iff, Bool.not_eq_true', decide_eq_false_iff_not, Int.not_lt, Int.not_le] at eb174); exact (q_addI rfl rfl (by omega))) ?_
      refine OpsW.g rfl rfl rfl (fun hB => by simp only [Bool.and_eq_true, beq_iff_eq] at hB; obtain rfl := hB; exact (q_neq rfl rfl)) ?_
      refine OpsW.q rfl (q_or2 rfl rfl rfl) ?_
      refine OpsW.nil ?_
      refine SeqP.go ?_
      refine AW.cond rfl (fun h6 => ?_) (fun h6 => ?_)
      ·
        exfalso
        try simp only [eb45, eb49, eb141, eb159, eb166, eb174, decide_eq_true_eq, decide_eq_false_iff_not, Bool.or_eq_true, Bool.and_eq_true, Bool.or_eq_false_iff, Bool.and_eq_false_imp, Bool.not_eq_true', Bool.not_eq_false', ne_eq, Decidable.not_not, Int.not_lt, Int.not_le, Bool.not_eq_true, Bool.not_eq_false] at h6
        simp_all
      try simp only [eb45, eb49, eb141, eb159, eb166, eb174, decide_eq_true_eq, decide_eq_false_iff_not, Bool.or_eq_true, Bool.and_eq_true, Bool.or_eq_false_iff, Bool.and_eq_false_imp, Bool.not_eq_true', Bool.not_eq_false', ne_eq, Decidable.not_not, Int.not_lt, Int.not_le, Bool.not_eq_true, Bool.not_eq_false] at h6
      refine AW.skip ?_
      refine BlockP.go ?_
      refine SeqP.go ?_
      refine AW.region ?_
      refine OpsW.q rfl (q_move (v := .int _ _) rfl) ?_
      refine OpsW.q rfl (q_addI rfl rfl (by omega)) ?_
      refine OpsW.q rfl (q_assign (v := .int _ _) rfl) ?_
      refine OpsW.nil ?_
      replace hS7 := hS7.del del0
      exact LoopP.go _ (by omega) ⟨i + 1, _, rfl, (by omega), Slots.eq ⟨(by first | rfl | exact i64_int (by omega) (by omega) (by omega) | assumption), (by first | rfl | exact i64_int (by omega) (by omega) (by omega) | assumption), (by first | rfl | exact i64_int (by omega) (by omega) (by omega) | assumption), (by first | rfl | exact i64_int (by omega) (by omega) (by omega) | assumption), (by first | rfl | exact i64_int (by omega) (by omega) (by omega) | assumption),  trivial⟩, hS7⟩
    try simp only [eb45, eb49, decide_eq_true_eq, decide_eq_false_iff_not, Bool.or_eq_true, Bool.and_eq_true, Bool.or_eq_false_iff, Bool.and_eq_false_imp, Bool.not_eq_true', Bool.not_eq_false', ne_eq, Decidable.not_not, Int.not_lt, Int.not_le, Bool.not_eq_true, Bool.not_eq_false] at h1
    refine AW.skip ?_
    refine SeqP.go ?_
    refine AW.seq ?_
    refine AW.block ?_
    refine AW.seq ?_
    refine AW.seq ?_
    refine AW.region ?_
    refine OpsW.q rfl (q_move (v := .slice _ _ _) rfl) ?_
    refine OpsW.q rfl (q_move (v := .int _ _) rfl) ?_
    refine OpsW.q rfl (q_indexAddrO Tryd.underlying36 (by kernel_rfl) rfl rfl (by first | omega | decide) (by first | omega | decide) hpa) ?_
    refine OpsW.q rfl (q_loadO (by kernel_rfl) rfl hpa (by first | omega | decide)) ?_
    rw [Int.toNat_natCast]
    refine OpsW.q rfl (q_lenS Tryd.underlying9 rfl) ?_
    refine OpsW.q rfl (q_gtr rfl rfl) ?_
    refine OpsW.nil ?_
    refine SeqP.go ?_
    refine AW.cond rfl (fun h2 => ?_) (fun h2 => ?_)
    ·
      try simp only [eb45, eb49, decide_eq_true_eq, decide_eq_false_iff_not, Bool.or_eq_true, Bool.and_eq_true, Bool.or_eq_false_iff, Bool.and_eq_false_imp, Bool.not_eq_true', Bool.not_eq_false', ne_eq, Decidable.not_not, Int.not_lt, Int.not_le, Bool.not_eq_true, Bool.not_eq_false] at h2
      refine AW.seq ?_
      refine AW.region ?_
      refine OpsW.q rfl (o_call rfl Tryd.func10 rfl rfl (awake_con)) ?_
      refine OpsW.q rfl (q_assign (v := .bool _) rfl) ?_
      refine OpsW.nil ?_
      refine SeqP.go ?_
      refine AW.ret ?_
      refine SeqP.ret ?_
      refine BlockP.ret ?_
      refine SeqP.ret ?_
      refine LoopP.ret ?_
      refine BlockP.ret ?_
      refine SeqP.ret ?_
      refine RetP.mk1 (H' := H) (v1 := .bool _) rfl rfl  hSl0.le ?_
      refine ⟨?_, rfl⟩
      simp_all
    try simp only [eb45, eb49, decide_eq_true_eq, decide_eq_false_iff_not, Bool.or_eq_true, Bool.and_eq_true, Bool.or_eq_false_iff, Bool.and_eq_false_imp, Bool.not_eq_true', Bool.not_eq_false', ne_eq, Decidable.not_not, Int.not_lt, Int.not_le, Bool.not_eq_true, Bool.not_eq_false] at h2
    obtain ⟨g1, g2, g3⟩ := bk_seal (ss := ss) (j := i) hok (by omega) hpad (by omega)
    have hhl := bkHead_length (ss := ss) (pad := pad) i
    refine AW.skip ?_
    refine SeqP.go ?_
    refine AW.seq ?_
    refine AW.region ?_
    refine OpsW.q rfl (q_move (v := .pointer _) rfl) ?_
    refine OpsW.q rfl (q_move (v := .int _ _) rfl) ?_
    refine OpsW.q rfl (q_remI rfl rfl (by omega)) ?_
    refine OpsW.q rfl (q_addI rfl rfl (by omega)) ?_
    refine OpsW.q rfl (q_move (v := .slice _ _ _) rfl) ?_
    refine OpsW.q rfl (q_move (v := .int _ _) rfl) ?_
    refine OpsW.q rfl (q_indexAddrO Tryd.underlying36 (by kernel_rfl) rfl rfl (by first | omega | decide) (by first | omega | decide) hpa) ?_
    refine OpsW.q rfl (q_loadO (by kernel_rfl) rfl hpa (by first | omega | decide)) ?_
    rw [Int.toNat_natCast]
    refine OpsW.q rfl (q_move (v := .int _ _) rfl) ?_
    refine OpsW.q rfl (q_convBI rfl Tryd.underlying3 rfl) ?_
    rw [← hpd]
    obtain ⟨Hf8, le8, hA8, hB8⟩ := hSl0.framed at2
    refine OpsW.m rfl (o_call rfl Tryd.func6 rfl rfl (bSealB_e hA8 hok (by omega) hpad (by omega))) ?_
    rintro _ H8 ⟨rfl, hR8⟩
    have hS8 := hB8 _ _ hR8
    clear hR8 hB8 hA8
    clear hSl0
    refine OpsW.q rfl (q_move (v := .tuple _) rfl) ?_
    refine OpsW.q rfl (q_extract (v := S _) rfl rfl) ?_
    refine OpsW.q rfl (q_extract (v := .int _ _) rfl rfl) ?_
    refine OpsW.q rfl (q_assign (v := S _) rfl) ?_
    refine OpsW.q rfl (q_assign (v := .int _ _) rfl) ?_
    refine OpsW.nil ?_
    refine SeqP.go ?_
    refine AW.seq ?_
    refine AW.seq ?_
    refine AW.region ?_
    refine OpsW.q rfl (q_move (v := .int _ _) rfl) ?_
    refine OpsW.q rfl (q_neq rfl rfl) ?_
    refine OpsW.qb rfl (q_move (v := .bool _) rfl) ?_
    intro b89 eb89
    refine OpsW.g rfl rfl rfl (fun hB => by simp only [Bool.and_eq_true, beq_iff_eq] at hB; obtain rfl := hB; exact (q_move (v := S _) rfl)) ?_
    refine OpsW.g rfl rfl rfl (fun hB => by simp only [Bool.and_eq_true, beq_iff_eq] at hB; obtain rfl := hB; exact (q_lenS Tryd.underlying9 rfl)) ?_
    refine OpsW.g rfl rfl rfl (fun hB => by simp only [Bool.and_eq_true, beq_iff_eq] at hB; obtain rfl := hB; exact (q_move (v := .slice _ _ _) rfl)) ?_
    refine OpsW.g rfl rfl rfl (fun hB => by simp only [Bool.and_eq_true, beq_iff_eq] at hB; obtain rfl := hB; exact (q_move (v := .int _ _) rfl)) ?_
    refine OpsW.g rfl rfl rfl (fun hB => by simp only [Bool.and_eq_true, beq_iff_eq] at hB; obtain rfl := hB; (try simp only [eb45, eb49, Bool.true_eq, Bool.false_eq, decide_eq_true_eq, Bool.and_eq_true, Bool.or_eq_true, Bool.or_eq_false_iff, Bool.not_eq_true', decide_eq_false_iff_not, Int.not_lt, Int.not_le] at eb89); exact (q_indexAddrO Tryd.underlying36 (by kernel_rfl) rfl rfl (by first | omega | decide) (by first | omega | decide) hpa)) ?_
    refine OpsW.g rfl rfl rfl (fun hB => by simp only [Bool.and_eq_true, beq_iff_eq] at hB; obtain rfl := hB; (try simp only [eb45, eb49, Bool.true_eq, Bool.false_eq, decide_eq_true_eq, Bool.and_eq_true, Bool.or_eq_true, Bool.or_eq_false_iff, Bool.not_eq_true', decide_eq_false_iff_not, Int.not_lt, Int.not_le] at eb89); exact (q_loadO (by kernel_rfl) rfl hpa (by first | omega | decide))) ?_
    rw [Int.toNat_natCast]
    refine OpsW.g rfl rfl rfl (fun hB => by simp only [Bool.and_eq_true, beq_iff_eq] at hB; obtain rfl := hB; exact (q_lenS Tryd.underlying9 rfl)) ?_
    refine OpsW.g rfl rfl rfl (fun hB => by simp only [Bool.and_eq_true, beq_iff_eq] at hB; obtain rfl := hB; (try simp only [eb45, eb49, Bool.true_eq, Bool.false_eq, decide_eq_true_eq, Bool.and_eq_true, Bool.or_eq_true, Bool.or_eq_false_iff, Bool.not_eq_true', decide_eq_false_iff_not, Int.not_lt, Int.not_le] at eb89); exact (q_addI rfl rfl (by omega))) ?_
    refine OpsW.g rfl rfl rfl (fun hB => by simp only [Bool.and_eq_true, beq_iff_eq] at hB; obtain rfl := hB; (try simp only [eb45, eb49, Bool.true_eq, Bool.false_eq, decide_eq_true_eq, Bool.and_eq_true, Bool.or_eq_true, Bool.or_eq_false_iff, Bool.not_eq_true', decide_eq_false_iff_not, Int.not_lt, Int.not_le] at eb89); exact (q_addI rfl rfl (by omega))) ?_
    refine OpsW.g rfl rfl rfl (fun hB => by simp only [Bool.and_eq_true, beq_iff_eq] at hB; obtain rfl := hB; exact (q_move (v := .int _ _) rfl)) ?_
    refine OpsW.g rfl rfl rfl (fun hB => by simp only [Bool.and_eq_true, beq_iff_eq] at hB; obtain rfl := hB; exact (q_convBI rfl Tryd.underlying3 rfl)) ?_
    rw [← hpd]
    refine OpsW.g rfl rfl rfl (fun hB => by simp only [Bool.and_eq_true, beq_iff_eq] at hB; obtain rfl := hB; (try simp only [eb45, eb49, Bool.true_eq, Bool.false_eq, decide_eq_true_eq, Bool.and_eq_true, Bool.or_eq_true, Bool.or_eq_false_iff, Bool.not_eq_true', decide_eq_false_iff_not, Int.not_lt, Int.not_le] at eb89); exact (q_addI rfl rfl (by omega))) ?_
    refine OpsW.g rfl rfl rfl (fun hB => by simp only [Bool.and_eq_true, beq_iff_eq] at hB; obtain rfl := hB; (try simp only [eb45, eb49, Bool.true_eq, Bool.false_eq, decide_eq_true_eq, Bool.and_eq_true, Bool.or_eq_true, Bool.or_eq_false_iff, Bool.not_eq_true', decide_eq_false_iff_not, Int.not_lt, Int.not_le] at eb89); exact (q_addI rfl rfl (by omega))) ?_
    refine OpsW.g rfl rfl rfl (fun hB => by simp only [Bool.and_eq_true, beq_iff_eq] at hB; obtain rfl := hB; exact (q_neq rfl rfl)) ?_
    refine OpsW.q rfl (q_or2 rfl rfl rfl) ?_
    refine OpsW.nil ?_
    refine SeqP.go ?_
    refine AW.cond rfl (fun h3 => ?_) (fun h3 => ?_)
    ·
      exfalso
      try simp only [eb45, eb49, eb89, decide_eq_true_eq, decide_eq_false_iff_not, Bool.or_eq_true, Bool.and_eq_true, Bool.or_eq_false_iff, Bool.and_eq_false_imp, Bool.not_eq_true', Bool.not_eq_false', ne_eq, Decidable.not_not, Int.not_lt, Int.not_le, Bool.not_eq_true, Bool.not_eq_false] at h3
      simp_all <;> omega
    try simp only [eb45, eb49, eb89, decide_eq_true_eq, decide_eq_false_iff_not, Bool.or_eq_true, Bool.and_eq_true, Bool.or_eq_false_iff, Bool.and_eq_false_imp, Bool.not_eq_true', Bool.not_eq_false', ne_eq, Decidable.not_not, Int.not_lt, Int.not_le, Bool.not_eq_true, Bool.not_eq_false] at h3
    refine AW.skip ?_
    refine SeqP.go ?_
    refine AW.region ?_
    refine OpsW.q rfl (q_move (v := vo) rfl) ?_
    refine OpsW.q rfl (q_move (v := S _) rfl) ?_
    refine OpsW.q rfl (q_sliceS_lo Tryd.underlying9 rfl rfl (by first | omega | decide) (by first | omega | decide)) ?_
    rw [bkHead_drop]
    refine OpsW.m rfl (s_buildSlice (z := S []) (vs := strs [_]) hS8 Tryd.underlying36 (by kernel_rfl) (by kernel_rfl) rfl (by rfl) (by rfl) (by decide) rfl (strs_one _) rfl) ?_
    rintro v108 H9 hS9
    clear hS8
    refine OpsW.m rfl (s_append (sz := 1) (by_ := 16) (z := S []) hS9 at1 Tryd.underlying36 (by kernel_rfl) (by kernel_rfl) (by kernel_rfl) rfl (by kernel_rfl) rfl rfl (src_vec (hS9.vec at0) (strs_one _)) (by first | (with_reducible assumption) | omega | (unfold maxLen; omega) | (simp only [nums_length, List.length_set, List.length_replicate, List.length_take, List.length_drop, List.length_append, List.length_cons, List.length_nil, ofB_length, toB_length]; omega) | (simp only [nums_length, List.length_set, List.length_replicate, List.length_take, List.length_drop, List.length_append, List.length_cons, List.length_nil, ofB_length, toB_length]; unfold maxLen; omega) | (simp; done) | (simp; omega) | rfl | decide) (by first | (with_reducible assumption) | omega | (unfold maxLen; omega) | (simp only [nums_length, List.length_set, List.length_replicate, List.length_take, List.length_drop, List.length_append, List.length_cons, List.length_nil, ofB_length, toB_length]; omega) | (simp only [nums_length, List.length_set, List.length_replicate, List.length_take, List.length_drop, List.length_append, List.length_cons, List.length_nil, ofB_length, toB_length]; unfold maxLen; omega) | (simp; done) | (simp; omega) | rfl | decide)) ?_
    rintro v109 H10 hS10
    clear hS9
    replace hS10 := hS10.del del0
    refine OpsW.q rfl (q_assign (v := v109) rfl) ?_
    refine OpsW.nil ?_
    refine BlockP.go ?_
    refine SeqP.go ?_
    refine AW.region ?_
    refine OpsW.q rfl (q_move (v := .int _ _) rfl) ?_
    refine OpsW.q rfl (q_addI rfl rfl (by omega)) ?_
    refine OpsW.q rfl (q_assign (v := .int _ _) rfl) ?_
    refine OpsW.nil ?_
    exact LoopP.go _ (by omega) ⟨i + 1, v109, _, rfl, ⟨by omega, fun j hj => (Nat.lt_or_ge j i).elim (fun q => hf j q) (fun q => by rw [show j = i from by omega]; omega)⟩, Slots.eq ⟨(by first | rfl | exact i64_int (by omega) (by omega) (by omega) | assumption), (by first | rfl | exact i64_int (by omega) (by omega) (by omega) | assumption), (by first | rfl | exact i64_int (by omega) (by omega) (by omega) | assumption), (by first | rfl | exact i64_int (by omega) (by omega) (by omega) | assumption), (by first | rfl | exact i64_int (by omega) (by omega) (by omega) | assumption), (by first | rfl | exact i64_int (by omega) (by omega) (by omega) | assumption),  trivial⟩, (by rw [bkAll_succ, strs_append]; exact hS10)⟩
  ·
    refine AW.region ?_
    refine OpsW.q rfl (q_fieldAddr (sz := 0) Tryd.underlying35 rfl (by kernel_rfl) rfl) ?_
    refine OpsW.q rfl (q_load (v := .int _ _) (by kernel_rfl) rfl (hS1.blk at0) rfl) ?_
    refine OpsW.q rfl (q_fieldAddr (sz := 0) Tryd.underlying35 rfl (by kernel_rfl) rfl) ?_
    refine OpsW.q rfl (q_load (v := S _) (by kernel_rfl) rfl (hS1.blk at0) rfl) ?_
    refine OpsW.q rfl (q_fieldAddr (sz := 0) Tryd.underlying35 rfl (by kernel_rfl) rfl) ?_
    refine OpsW.q rfl (q_load (v := S _) (by kernel_rfl) rfl (hS1.blk at0) rfl) ?_
    refine OpsW.q rfl (o_call rfl Tryd.func11 rfl rfl (NewBox_bad hz)) ?_
    refine OpsW.q rfl (q_move (v := .tuple _) rfl) ?_
    refine OpsW.q rfl (q_extract (v := .pointer _) rfl rfl) ?_
    refine OpsW.q rfl (q_extract (v := .int _ _) rfl rfl) ?_
    refine OpsW.q rfl (q_assign (v := .pointer _) rfl) ?_
    refine OpsW.q rfl (q_assign (v := .int _ _) rfl) ?_
    refine OpsW.nil ?_
    refine SeqP.go ?_
    refine AW.seq ?_
    refine AW.region ?_
    refine OpsW.q rfl (q_fieldAddr (sz := 0) Tryd.underlying35 rfl (by kernel_rfl) rfl) ?_
    refine OpsW.q rfl (q_load (v := .int _ _) (by kernel_rfl) rfl (hS1.blk at0) rfl) ?_
    refine OpsW.q rfl (q_fieldAddr (sz := 0) Tryd.underlying35 rfl (by kernel_rfl) rfl) ?_
    refine OpsW.q rfl (q_load (v := S _) (by kernel_rfl) rfl (hS1.blk at0) rfl) ?_
    refine OpsW.q rfl (q_fieldAddr (sz := 0) Tryd.underlying35 rfl (by kernel_rfl) rfl) ?_
    refine OpsW.q rfl (q_load (v := S _) (by kernel_rfl) rfl (hS1.blk at0) rfl) ?_
    refine OpsW.q rfl (o_call rfl Tryd.func11 rfl rfl (NewBox_bad hz)) ?_
    refine OpsW.q rfl (q_move (v := .tuple _) rfl) ?_
    refine OpsW.q rfl (q_extract (v := .pointer _) rfl rfl) ?_
    refine OpsW.q rfl (q_extract (v := .int _ _) rfl rfl) ?_
    refine OpsW.q rfl (q_assign (v := .pointer _) rfl) ?_
    refine OpsW.q rfl (q_assign (v := .int _ _) rfl) ?_
    refine OpsW.nil ?_
    refine SeqP.go ?_
    refine AW.seq ?_
    refine AW.seq ?_
    refine AW.region ?_
    refine OpsW.q rfl (q_move (v := .int _ _) rfl) ?_
    refine OpsW.q rfl (q_neq rfl rfl) ?_
    refine OpsW.qb rfl (q_move (v := .bool _) rfl) ?_
    intro b45 eb45
    refine OpsW.g rfl rfl rfl (fun hB => by simp only [Bool.and_eq_true, beq_iff_eq] at hB; obtain rfl := hB; exact (q_move (v := .int _ _) rfl)) ?_
    refine OpsW.g rfl rfl rfl (fun hB => by simp only [Bool.and_eq_true, beq_iff_eq] at hB; obtain rfl := hB; exact (q_neq rfl rfl)) ?_
    refine OpsW.q rfl (q_or2 rfl rfl rfl) ?_
    refine OpsW.qb rfl (q_move (v := .bool _) rfl) ?_
    intro b49 eb49
    refine OpsW.g rfl rfl rfl (fun hB => by simp only [Bool.and_eq_true, beq_iff_eq] at hB; obtain rfl := hB; exact (q_move (v := .slice _ _ _) rfl)) ?_
    refine OpsW.g rfl rfl rfl (fun hB => by simp only [Bool.and_eq_true, beq_iff_eq] at hB; obtain rfl := hB; exact (q_lenV Tryd.underlying36 rfl)) ?_
    refine OpsW.g rfl rfl rfl (fun hB => by simp only [Bool.and_eq_true, beq_iff_eq] at hB; obtain rfl := hB; exact (q_gtr rfl rfl)) ?_
    refine OpsW.q rfl (q_or2 rfl rfl rfl) ?_
    refine OpsW.nil ?_
    refine SeqP.go ?_
    refine AW.cond rfl (fun h0 => ?_) (fun h0 => ?_)
    ·
      try simp only [eb45, eb49, decide_eq_true_eq, decide_eq_false_iff_not, Bool.or_eq_true, Bool.and_eq_true, Bool.or_eq_false_iff, Bool.and_eq_false_imp, Bool.not_eq_true', Bool.not_eq_false', ne_eq, Decidable.not_not, Int.not_lt, Int.not_le, Bool.not_eq_true, Bool.not_eq_false] at h0
      refine AW.seq ?_
      refine AW.region ?_
      refine OpsW.q rfl (q_move (v := .int _ _) rfl) ?_
      refine OpsW.q rfl (q_move (v := .int _ _) rfl) ?_
      refine OpsW.q rfl (q_eql rfl rfl) ?_
      refine OpsW.qb rfl (q_move (v := .bool _) rfl) ?_
      intro b57 eb57
      refine OpsW.g rfl rfl rfl (fun hB => by simp only [Bool.and_eq_true, beq_iff_eq] at hB; obtain rfl := hB; exact (o_call rfl Tryd.func10 rfl rfl (awake_con))) ?_
      refine OpsW.q rfl (q_and2 rfl rfl rfl) ?_
      refine OpsW.q rfl (q_assign (v := .bool _) rfl) ?_
      refine OpsW.nil ?_
      refine SeqP.go ?_
      refine AW.ret ?_
      refine SeqP.ret ?_
      refine RetP.mk1 (H' := H) (v1 := .bool _) rfl rfl  hS1.le ?_
      refine ⟨?_, rfl⟩
      simp_all
    exfalso
    try simp only [eb45, eb49, decide_eq_true_eq, decide_eq_false_iff_not, Bool.or_eq_true, Bool.and_eq_true, Bool.or_eq_false_iff, Bool.and_eq_false_imp, Bool.not_eq_true', Bool.not_eq_false', ne_eq, Decidable.not_not, Int.not_lt, Int.not_le, Bool.not_eq_true, Bool.not_eq_false] at h0
    simp_all
end
end Go.Proofs.YtfpoldogcopmpaaDoor
end
section
namespace Go.Proofs.YtfpoldogcopmpaaDoor
open Go Go.RowKit Go.ChangeShapes Go.WideShapes Go.ChangeAt D
set_option linter.unusedVariables false
set_option maxRecDepth 100000
theorem own : ownKnob Tryd.prog.godebug = none := by kernel_rfl
theorem laidOut : laidOutB Tryd.prog = true := by kernel_rfl
theorem byte_of {n : Int} (h : 0 ≤ n ∧ n ≤ 255) : ∃ c : UInt8, n = ((c.toNat : Nat) : Int) := ⟨UInt8.ofNat n.toNat, by rw [UInt8.toNat_ofNat', Nat.mod_eq_of_lt (by omega)]; omega⟩
theorem recordBack_lifted (os : Os) (started : os.Started) (H : Type) (enc : TypeId × Value → H) :
    ReturnsInHanded {} Tryd.checked os 4 .any (fun w args => (Rows.recordBackSpec.pre enc Tryd.prog Tryd.f4 Rows.recordBackRow.domain false w args ∧ laidMetH Tryd.prog Rows.recordBackRow.laid w) ∧ sizedMet enc Tryd.prog Tryd.f4 (OpenSpec.ofChange Rows.recordBackSpec) false w args) (Rows.recordBackSpec.post enc Tryd.prog Tryd.f4 false true false false) := by
  refine liftedL (C := Tryd.checked) (laid := Rows.recordBackRow.laid) own started (by kernel_rfl) Tryd.func4
    (ChangeSpec.witness_shaped (enc := enc) (C := Tryd.checked) (os := os) (X := fun w _ => laidMetH Tryd.prog Rows.recordBackRow.laid w) false (World.laidAll Tryd.prog os Rows.recordBackRow.laid) #[.agg #[.int .i64 0, .string ⟨#[]⟩, .string ⟨#[]⟩], .slice none 0 0, .int .u8 0] 8 (World.laidAll_os _ _ _)
      (World.shaped_of_ZipB (by kernel_rfl) (by kernel_rfl)) (by kernel_rfl) (by kernel_rfl) (by kernel_rfl)
      (by rw [MakeChecks.laidMetH_plain _ _ _ (by kernel_rfl)]; exact laidMet_laidAll _ (by kernel_rfl) (by kernel_rfl))) laidOut (by kernel_rfl) rfl (by kernel_rfl) Tryd.underlying4 ?_ ?_
  · intro ds h
    obtain ⟨d0, d1, d2, rfl⟩ := len3 h
    exact ⟨rfl, rfl, rfl⟩
  · intro W base args ds gs before hval0 hW _ hL
    have hval : ∀ (j : Nat) t v, Tryd.f4.params[j]? = some t → args[j]? = some v → Value.okWide Tryd.prog W .any base t v := hval0
    obtain ⟨p_, q_, hA0, hV, rfl, _, _⟩ := hW
    have hA : DataW.TrodAll enc Tryd.prog W 0 (fun _ => true) true Tryd.f4.params.toList args.toList ds p_ := hA0
    rw [Tryd.params4] at hA hval
    obtain ⟨v0, v1, v2, d0, d1, d2, p0_, p1_, p2_, rfl, rfl, rfl, h0, h1, h2⟩ := trodAll_three hA
    obtain ⟨csx, rfl, hTx⟩ := open_structT Tryd.underlying35 (hval 0 _ v0 rfl rfl) h0
    have hUx := Tryd.underlying35
    have hlx := (hTx.struct hUx).1
    rw [show Tryd.prog.cellsOf 35 = 3 by kernel_rfl] at hlx
    obtain ⟨x0x, x1x, x2x, rfl⟩ := len3 hlx
    obtain ⟨xs, k0x, _⟩ := (hTx.part hUx 0 0 1 3 rfl (by kernel_rfl)).i64 Tryd.underlying3
    obtain ⟨xk, k1x, _⟩ := (hTx.part hUx 1 1 1 9 rfl (by kernel_rfl)).str Tryd.underlying9
    obtain ⟨xi, k2x, _⟩ := (hTx.part hUx 2 2 1 9 rfl (by kernel_rfl)).str Tryd.underlying9
    simp at k0x k1x k2x
    subst k0x k1x k2x
    obtain ⟨pt, ct, t, rfl, hpt, hmt, hlt⟩ := open_strsO Tryd.underlying36 Tryd.underlying9 (by kernel_rfl) (hval 1 _ v1 rfl rfl) h1
    obtain ⟨np, rfl, rfl, _, hsp⟩ := open_int Tryd.underlying5 (hval 2 _ v2 rfl rfl) h2
    obtain ⟨p, rfl⟩ : ∃ c : UInt8, np = ((c.toNat : Nat) : Int) := byte_of (wf_u8 hsp)
    exact (back_con xs xk xi t p hpt hmt).mono fun v H' h => h.1
theorem recordBack_holds : Rows.RecordBackSaid :=
  OpenClaim.holds_of_wide 4 Tryd.f4 rfl rfl rfl rfl rfl rfl rfl ⟨rfl, rfl, rfl, rfl, rfl⟩ rfl rfl rfl rfl rfl (by kernel_rfl) Tryd.func4 (by kernel_rfl)
    (of_decide_eq_true (by kernel_rfl)) (by unfold Func.isWrapper; first | (rw [if_pos (by decide +kernel)]; kernel_rfl) | (rw [if_neg (by decide +kernel)]; exact ⟨rfl, rfl⟩))
    (fun os started H enc _ => recordBack_lifted os started H enc)
theorem recordBack_card : Rows.RecordBackCardSaid :=
  Claim7.holds_tied_plain_at .later [] _ _ _ _ recordBack_holds (fun _ h => by cases h) (by kernel_rfl) (fun _ h => by cases h) recordBack_row_tie rfl ⟨rfl, rfl⟩ (by kernel_rfl) rfl
    (fun f fn hf hfn => by
      obtain rfl : f = 4 := Option.some.inj ((show Tryd.prog.funcNamed "cresset/cressetlaw15.RecordBack" = some 4 by kernel_rfl).symm.trans hf) |>.symm
      obtain rfl : fn = Tryd.f4 := (Option.some.inj (Tryd.func4.symm.trans hfn)).symm
      exact ⟨by kernel_rfl, fun j t ht => by
        have hall : (Tryd.f4.params.toList.all fun u => !Tryd.prog.wantsStandIn u) = true := by kernel_rfl
        have hm : t ∈ Tryd.f4.params.toList := Array.mem_toList_iff.2 (Array.mem_of_getElem? ht)
        exact (show Tryd.prog.wantsStandIn t = false by simpa using List.all_eq_true.1 hall t hm)⟩)
    (by kernel_rfl)
end Go.Proofs.YtfpoldogcopmpaaDoor
end
