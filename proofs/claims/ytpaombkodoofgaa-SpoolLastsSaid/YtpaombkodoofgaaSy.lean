/-
  The walk of the last statement of chapter 23: what is there behind a crash.
-/
import Derived.Test.YtpaombkodoofgaaDQ
import Derived.Test.YtpaombkodoofgaaProg
import Derived.Test.YtpaombkodoofgaaSw
import Derived.Test.YtpaombkodoofgaaSpLast
import Derived.Test.YtpaombkodoofgaaDH
import Derived.Test.YtpaombkodoofgaaDX
namespace Go.Proofs.Ytpaombkodoofgaa
open Go Go.RowKit D
set_option linter.unusedVariables false
set_option linter.unusedSimpArgs false
set_option maxRecDepth 100000
set_option maxHeartbeats 4000000
section
variable {w0 : World} {H : Hp} {H0 : Hp}

theorem D.Sep.weak {H1 : Hp} : ∀ {L : List Chunk} {H0 H : Hp}, Sep H1 L H → H0.le H1 → Sep H0 L H := by
  intro L
  induction L with
  | nil => intro H0 H h hl; exact Hp.le_trans hl h
  | cons c L ih => intro H0 H ⟨g1, g2, a, b, d, e, f⟩ hl; exact ⟨g1, g2, a, b, d, e, ih f hl⟩
theorem Marks_x {L : List Chunk} {F : Chunk → List Chunk} {b tb : Nat} {st : SpS} {rm : Int} {dd : Bool} {t : TapeS} (h : Sep H0 L H) (hA : At L (spC b tb ⟨st, rm, dd⟩ t) F) : Con Try.prog w0 8 #[PT b] H (fun v H' => v = .tuple #[.int .i64 st.ak, .int .i64 st.la] ∧ H' = H) := Marks_c h hA
theorem kp_more {n : Int} {l : RecL} {k : Nat} {r : RecS} (h : l[k]? = some r) : kp n (l.take (k + 1)) = if n < r.seq then kp n (l.take k) ++ [r] else kp n (l.take k) := by
  rw [take_more h, kp_append]
  by_cases h1 : n < r.seq
  · simp [kp, h1]
  · simp [kp, h1]

theorem lasts_con {rops : Option Addr} {m0 c0 : Nat} {vc vk : Value} {cs ks : List Int} (o : Nat → OpS) (hrops : RowsAt w0 rops m0 4 fun j => opCells (o j)) (hm : m0 ≤ maxLen) (hC : ∀ H : Hp, RdW w0 H vc (nums .i64 cs)) (hK : ∀ H : Hp, RdW w0 H vk (nums .i64 ks)) (hcm : cs.length ≤ maxLen) (hkm : ks.length ≤ maxLen) (hcz : ∀ j, -9223372036854775808 ≤ cs.getD j 0 ∧ cs.getD j 0 ≤ 9223372036854775807) (hO : ∀ j, j < m0 → -9223372036854775808 ≤ (o j).n ∧ (o j).n ≤ 9223372036854775807) : Con Try.prog w0 5 #[.slice rops m0 c0, vc, vk] H (fun v H' => v = .bool true ∧ H' = H) := by
  have hS0 : Sep H [] H := Sep.refl
  unfold maxLen at hm hcm hkm
  refine Con.intro Try.func5 rfl rfl ?_
  refine AW.seq ?_
  refine AW.region ?_
  refine OpsW.q rfl (q_assign (v := .bool _) rfl) ?_
  refine OpsW.nil ?_
  refine SeqP.go ?_
  refine AW.seq ?_
  refine AW.region ?_
  refine OpsW.m rfl (o_call rfl Try.func12 rfl rfl (New_e (n := 4194304) (by decide))) ?_
  rintro _ H1 ⟨b33, rfl, hR1⟩
  have hS1 := hS0.join hR1
  simp only [List.cons_append, List.nil_append] at hS1
  clear hR1 hS0
  refine OpsW.q rfl (q_move (v := .tuple _) rfl) ?_
  refine OpsW.q rfl (q_extract (v := .pointer _) rfl rfl) ?_
  refine OpsW.q rfl (q_extract (v := .int _ _) rfl rfl) ?_
  refine OpsW.q rfl (q_assign (v := .pointer _) rfl) ?_
  refine OpsW.q rfl (q_assign (v := .int _ _) rfl) ?_
  refine OpsW.nil ?_
  refine SeqP.go ?_
  refine AW.seq ?_
  refine AW.region ?_
  refine OpsW.q rfl (q_move (v := .pointer _) rfl) ?_
  obtain ⟨Hf2, le2, hA2, hB2⟩ := hS1.framed at0
  refine OpsW.m rfl (o_call rfl Try.func6 rfl rfl (Open_e hA2 (li0.tk (by omega)) (open_firm li0).1 (open_firm li0).2)) ?_
  rintro _ H2 ⟨b38, rfl, hR2⟩
  have hS2 := hB2 _ _ hR2
  clear hR2 hB2 hA2
  clear hS1
  refine OpsW.q rfl (q_move (v := .tuple _) rfl) ?_
  refine OpsW.q rfl (q_extract (v := .pointer _) rfl rfl) ?_
  refine OpsW.q rfl (q_extract (v := .int _ _) rfl rfl) ?_
  refine OpsW.q rfl (q_assign (v := .pointer _) rfl) ?_
  refine OpsW.q rfl (q_assign (v := .int _ _) rfl) ?_
  refine OpsW.nil ?_
  refine SeqP.go ?_
  refine AW.seq ?_
  refine AW.seq ?_
  refine AW.region ?_
  refine OpsW.q rfl (q_move (v := .int _ _) rfl) ?_
  refine OpsW.q rfl (q_neq rfl rfl) ?_
  refine OpsW.q rfl (q_move (v := .bool false) rfl) ?_
  refine OpsW.qw rfl rfl (q_move (v := .int _ _) rfl) ?_
  refine OpsW.qw rfl rfl (q_neq rfl rfl) ?_
  refine OpsW.q rfl (q_or2 rfl rfl rfl) ?_
  refine OpsW.q rfl (q_move (v := .bool false) rfl) ?_
  refine OpsW.qw rfl rfl (q_move (v := .pointer _) rfl) ?_
  refine OpsW.qw rfl rfl (q_eqlP Try.underlying22 rfl rfl) ?_
  refine OpsW.q rfl (q_or2 rfl rfl rfl) ?_
  refine OpsW.nil ?_
  refine SeqP.go ?_
  refine AW.cond rfl (fun h0 => ?_) (fun h0 => ?_)
  ·
    exfalso
    try simp only [decide_eq_true_eq, decide_eq_false_iff_not, Bool.or_eq_true, Bool.and_eq_true, Bool.or_eq_false_iff, Bool.and_eq_false_imp, Bool.not_eq_true', Bool.not_eq_false', ne_eq, Decidable.not_not, Int.not_lt, Int.not_le, Bool.not_eq_true, Bool.not_eq_false] at h0
    first | contradiction | (simp at *; done) | simp_all
  try simp only [decide_eq_true_eq, decide_eq_false_iff_not, Bool.or_eq_true, Bool.and_eq_true, Bool.or_eq_false_iff, Bool.and_eq_false_imp, Bool.not_eq_true', Bool.not_eq_false', ne_eq, Decidable.not_not, Int.not_lt, Int.not_le, Bool.not_eq_true, Bool.not_eq_false] at h0
  refine AW.skip ?_
  refine SeqP.go ?_
  refine AW.seq ?_
  refine AW.region ?_
  refine OpsW.q rfl (q_assign (v := .slice _ _ _) rfl) ?_
  refine OpsW.nil ?_
  refine SeqP.go ?_
  refine AW.seq ?_
  refine AW.region ?_
  refine OpsW.m rfl (s_makeMap hS2) ?_
  rintro _ H3 ⟨b51, rfl, hS3⟩
  clear hS2
  refine OpsW.q rfl (q_assign (v := .map _) rfl) ?_
  refine OpsW.nil ?_
  refine SeqP.go ?_
  refine AW.seq ?_
  refine AW.seq ?_
  refine AW.region ?_
  refine OpsW.q rfl (q_assign (v := .int _ _) rfl) ?_
  refine OpsW.nil ?_
  refine SeqP.go ?_
  refine AW.block ?_
  replace hS3 := hS3.nil (el := 46) (sz := 2)
  refine AW.loop (fun m_ e_ H_ => ∃ (i : Nat) (st : SpS) (f : List UInt8) (m : List (Int × Value)) (bs : Nat) (nv : Value) (e0 : Env), m_ = m0 - i ∧ (LI i st f ∧ Mok m st ∧ i ≤ 40) ∧ e_ = upds e0 [(0, .slice rops m0 c0), (1, vc), (2, vk), (7, .pointer (some ⟨b33, 0, none⟩)), (9, .pointer (some ⟨bs, 0, none⟩)), (11, nv), (12, .map (some b51)), (13, .int .i64 (i : Int))] ∧ Sep H [.vec nv 46 2 st.l.length (rowsV recC st.l), .blk b51 (mpB (ents ((Value.int .i64)) m)), spC bs b33 ⟨st, 1000, false⟩ (firmT f)] H_) _ ⟨0, sp0, [], [], b38, nilV, _, rfl, ⟨li0, mok_nil, by omega⟩, Slots.eq ⟨(by first | rfl | exact i64_int (by omega) (by omega) (by omega) | assumption), (by first | rfl | exact i64_int (by omega) (by omega) (by omega) | assumption), (by first | rfl | exact i64_int (by omega) (by omega) (by omega) | assumption), (by first | rfl | exact i64_int (by omega) (by omega) (by omega) | assumption), (by first | rfl | exact i64_int (by omega) (by omega) (by omega) | assumption), (by first | rfl | exact i64_int (by omega) (by omega) (by omega) | assumption), (by first | rfl | exact i64_int (by omega) (by omega) (by omega) | assumption), (by first | rfl | exact i64_int (by omega) (by omega) (by omega) | assumption),  trivial⟩, hS3⟩ ?_
  rintro m_ _ Hl0 ⟨i, st, f, m, bs, nv, e0, rfl, ⟨hL, hmk, hi40⟩, rfl, hSl0⟩
  try clear hS3
  refine AW.seq ?_
  refine AW.seq ?_
  refine AW.region ?_
  refine OpsW.q rfl (q_move (v := .int _ _) rfl) ?_
  refine OpsW.q rfl (q_move (v := .slice _ _ _) rfl) ?_
  refine OpsW.q rfl (q_lenV Try.underlying35 rfl) ?_
  refine OpsW.q rfl (q_lss rfl rfl) ?_
  refine OpsW.qb rfl (q_move (v := .bool _) rfl) ?_
  intro b56 eb56
  refine OpsW.g rfl rfl rfl (fun hB => by simp only [Bool.and_eq_true, beq_iff_eq] at hB; obtain rfl := hB; exact (q_move (v := .int _ _) rfl)) ?_
  refine OpsW.g rfl rfl rfl (fun hB => by simp only [Bool.and_eq_true, beq_iff_eq] at hB; obtain rfl := hB; exact (q_lss rfl rfl)) ?_
  refine OpsW.q rfl (q_and2 rfl rfl rfl) ?_
  refine OpsW.nil ?_
  refine SeqP.go ?_
  refine AW.cond2 rfl (fun h1 => ?_) (fun h1 => ?_)
  ·
    try simp only [eb56, decide_eq_true_eq, decide_eq_false_iff_not, Bool.or_eq_true, Bool.and_eq_true, Bool.or_eq_false_iff, Bool.and_eq_false_imp, Bool.not_eq_true', Bool.not_eq_false', ne_eq, Decidable.not_not, Int.not_lt, Int.not_le, Bool.not_eq_true, Bool.not_eq_false] at h1
    refine AW.exit ?_
    refine SeqP.exit ?_
    refine LoopP.exit ?_
    refine BlockP.here ?_
    refine SeqP.go ?_
    refine AW.seq ?_
    refine AW.region ?_
    refine OpsW.q rfl (o_call rfl Try.func11 rfl rfl (awake_con)) ?_
    refine OpsW.q rfl (q_assign (v := .bool _) rfl) ?_
    refine OpsW.nil ?_
    refine SeqP.go ?_
    refine AW.ret ?_
    refine RetP.mk1 (H' := H) (v1 := .bool _) rfl rfl  hSl0.le ?_
    exact ⟨rfl, rfl⟩
  try simp only [eb56, decide_eq_true_eq, decide_eq_false_iff_not, Bool.or_eq_true, Bool.and_eq_true, Bool.or_eq_false_iff, Bool.and_eq_false_imp, Bool.not_eq_true', Bool.not_eq_false', ne_eq, Decidable.not_not, Int.not_lt, Int.not_le, Bool.not_eq_true, Bool.not_eq_false] at h1
  have hi : i < m0 ∧ i < 40 := by omega
  have hop := hrops
  have hOi := hO i hi.1
  refine AW.skip ?_
  refine SeqP.go ?_
  refine AW.seq ?_
  refine AW.block ?_
  refine AW.seq ?_
  refine AW.region ?_
  refine OpsW.q rfl (q_move (v := .slice _ _ _) rfl) ?_
  refine OpsW.q rfl (q_move (v := .int _ _) rfl) ?_
  refine OpsW.q rfl (q_indexAddrR Try.underlying35 (by kernel_rfl) rfl rfl (by first | omega | decide) (by first | omega | decide) hrops) ?_
  refine OpsW.q rfl (q_loadR (sz := 4) (by kernel_rfl) rfl hrops (by first | omega | decide)) ?_
  rw [Int.toNat_natCast]
  refine OpsW.m rfl (s_alloc (z := .agg #[.int .i64 0, S [], .int .i64 0, .bool false]) (cs := [.int .i64 0, S [], .int .i64 0, .bool false]) hSl0 (by kernel_rfl) rfl) ?_
  rintro _ H4 ⟨b14, rfl, hS4⟩
  clear hSl0
  refine OpsW.ms (s_storeS (n := 4) hS4 at0 (by kernel_rfl) rfl rfl rfl (ones_all rfl) rfl) ?_
  rintro _ H5 ⟨rfl, hS5⟩
  clear hS4
  refine OpsW.nil ?_
  refine SeqP.go ?_
  refine AW.seq ?_
  refine AW.seq ?_
  refine AW.region ?_
  refine OpsW.q rfl (q_fieldAddr (sz := 0) Try.underlying40 rfl (by kernel_rfl) rfl) ?_
  refine OpsW.q rfl (q_load (v := S _) (by kernel_rfl) rfl (hS5.blk at0) rfl) ?_
  refine OpsW.q rfl (q_lenS Try.underlying9 rfl) ?_
  refine OpsW.q rfl (q_gtr rfl rfl) ?_
  refine OpsW.nil ?_
  refine SeqP.go ?_
  refine AW.cond rfl (fun h2 => ?_) (fun h2 => ?_)
  ·
    try simp only [eb56, decide_eq_true_eq, decide_eq_false_iff_not, Bool.or_eq_true, Bool.and_eq_true, Bool.or_eq_false_iff, Bool.and_eq_false_imp, Bool.not_eq_true', Bool.not_eq_false', ne_eq, Decidable.not_not, Int.not_lt, Int.not_le, Bool.not_eq_true, Bool.not_eq_false] at h2
    refine AW.seq ?_
    refine AW.region ?_
    refine OpsW.q rfl (o_call rfl Try.func11 rfl rfl (awake_con)) ?_
    refine OpsW.q rfl (q_assign (v := .bool _) rfl) ?_
    refine OpsW.nil ?_
    refine SeqP.go ?_
    refine AW.ret ?_
    refine SeqP.ret ?_
    refine BlockP.ret ?_
    refine SeqP.ret ?_
    refine LoopP.ret ?_
    refine BlockP.ret ?_
    refine SeqP.ret ?_
    refine RetP.mk1 (H' := H) (v1 := .bool _) rfl rfl  hS5.le ?_
    exact ⟨rfl, rfl⟩
  try simp only [eb56, decide_eq_true_eq, decide_eq_false_iff_not, Bool.or_eq_true, Bool.and_eq_true, Bool.or_eq_false_iff, Bool.and_eq_false_imp, Bool.not_eq_true', Bool.not_eq_false', ne_eq, Decidable.not_not, Int.not_lt, Int.not_le, Bool.not_eq_true, Bool.not_eq_false] at h2
  have hla := hL.la
  have hLl := hL.ok.1
  have hLa := hL.ok.2.1
  have hll : st.l.length ≤ 100000 := by omega
  refine AW.skip ?_
  refine SeqP.go ?_
  refine AW.seq ?_
  refine AW.region ?_
  refine OpsW.q rfl (q_assign (v := .int _ _) rfl) ?_
  refine OpsW.nil ?_
  refine SeqP.go ?_
  refine AW.seq ?_
  refine AW.region ?_
  refine OpsW.q rfl (q_assign (v := .int _ _) rfl) ?_
  refine OpsW.nil ?_
  refine SeqP.go ?_
  refine AW.cut (fun e_ H_ => ∃ (cut : Int) (e0 : Env), (cut ≤ 9223372036854775807) ∧ e_ = upds e0 [(0, .slice rops m0 c0), (1, vc), (2, vk), (7, .pointer (some ⟨b33, 0, none⟩)), (9, .pointer (some ⟨bs, 0, none⟩)), (11, nv), (12, .map (some b51)), (13, .int .i64 (i : Int)), (14, .pointer (some ⟨b14, 0, none⟩)), (15, .int .i64 cut), (16, .int .i64 0)] ∧ Sep H [.blk b14 ⟨[.int .i64 (o i).ask, S (o i).dat, .int .i64 (o i).n, .bool (o i).sp], 4, 40⟩, .vec nv 46 2 st.l.length (rowsV recC st.l), .blk b51 (mpB (ents ((Value.int .i64)) m)), spC bs b33 ⟨st, 1000, false⟩ (firmT f)] H_) ?_ ?_
  ·
    refine AW.seq ?_
    refine AW.region ?_
    refine OpsW.q rfl (q_move (v := vc) rfl) ?_
    refine OpsW.q rfl (q_lenWN (hC _) Try.underlying42 rfl) ?_
    refine OpsW.q rfl (q_gtr rfl rfl) ?_
    refine OpsW.nil ?_
    refine SeqP.go ?_
    refine AW.cond rfl (fun h3 => ?_) (fun h3 => ?_)
    ·
      try simp only [eb56, decide_eq_true_eq, decide_eq_false_iff_not, Bool.or_eq_true, Bool.and_eq_true, Bool.or_eq_false_iff, Bool.and_eq_false_imp, Bool.not_eq_true', Bool.not_eq_false', ne_eq, Decidable.not_not, Int.not_lt, Int.not_le, Bool.not_eq_true, Bool.not_eq_false] at h3
      refine AW.region ?_
      refine OpsW.q rfl (q_move (v := vc) rfl) ?_
      refine OpsW.q rfl (q_move (v := .int _ _) rfl) ?_
      refine OpsW.q rfl (q_move (v := vc) rfl) ?_
      refine OpsW.q rfl (q_lenWN (hC _) Try.underlying42 rfl) ?_
      have hcp : 0 < cs.length := by omega
      have hc0 : 0 ≤ (i : Int) % (cs.length : Int) := Int.emod_nonneg _ (by omega)
      have hc1 : (i : Int) % (cs.length : Int) < cs.length := Int.emod_lt_of_pos _ (by omega)
      refine OpsW.q rfl (q_remI rfl rfl (by omega)) ?_
      refine OpsW.q rfl (q_indexW (hC _) Try.underlying42 (by kernel_rfl) rfl rfl (by first | omega | decide) (by first | (with_reducible assumption) | omega | (unfold maxLen; omega) | (simp only [nums_length, List.length_set, List.length_replicate, List.length_take, List.length_drop, List.length_append, List.length_cons, List.length_nil, ofB_length, toB_length]; omega) | (simp only [nums_length, List.length_set, List.length_replicate, List.length_take, List.length_drop, List.length_append, List.length_cons, List.length_nil, ofB_length, toB_length]; unfold maxLen; omega) | (simp; done) | (simp; omega) | rfl | decide)) ?_
      have hcb := hcz ((i : Int) % (cs.length : Int)).toNat
      refine OpsW.q rfl (q_loadWN (hC _) (by kernel_rfl) rfl (by first | (with_reducible assumption) | omega | (unfold maxLen; omega) | (simp only [nums_length, List.length_set, List.length_replicate, List.length_take, List.length_drop, List.length_append, List.length_cons, List.length_nil, ofB_length, toB_length]; omega) | (simp only [nums_length, List.length_set, List.length_replicate, List.length_take, List.length_drop, List.length_append, List.length_cons, List.length_nil, ofB_length, toB_length]; unfold maxLen; omega) | (simp; done) | (simp; omega) | rfl | decide)) ?_
      refine OpsW.q rfl (q_assign (v := .int _ _) rfl) ?_
      refine OpsW.nil ?_
      exact CutP.go ⟨cs.getD ((i : Int) % (cs.length : Int)).toNat 0, _, hcb.2, Slots.eq ⟨(by first | rfl | exact i64_int (by omega) (by omega) (by omega) | assumption), (by first | rfl | exact i64_int (by omega) (by omega) (by omega) | assumption), (by first | rfl | exact i64_int (by omega) (by omega) (by omega) | assumption), (by first | rfl | exact i64_int (by omega) (by omega) (by omega) | assumption), (by first | rfl | exact i64_int (by omega) (by omega) (by omega) | assumption), (by first | rfl | exact i64_int (by omega) (by omega) (by omega) | assumption), (by first | rfl | exact i64_int (by omega) (by omega) (by omega) | assumption), (by first | rfl | exact i64_int (by omega) (by omega) (by omega) | assumption), (by first | rfl | exact i64_int (by omega) (by omega) (by omega) | assumption), (by first | rfl | exact i64_int (by omega) (by omega) (by omega) | assumption), (by first | rfl | exact i64_int (by omega) (by omega) (by omega) | assumption),  trivial⟩, hS5⟩
    try simp only [eb56, decide_eq_true_eq, decide_eq_false_iff_not, Bool.or_eq_true, Bool.and_eq_true, Bool.or_eq_false_iff, Bool.and_eq_false_imp, Bool.not_eq_true', Bool.not_eq_false', ne_eq, Decidable.not_not, Int.not_lt, Int.not_le, Bool.not_eq_true, Bool.not_eq_false] at h3
    refine AW.skip ?_
    exact CutP.go ⟨0, _, (by omega), Slots.eq ⟨(by first | rfl | exact i64_int (by omega) (by omega) (by omega) | assumption), (by first | rfl | exact i64_int (by omega) (by omega) (by omega) | assumption), (by first | rfl | exact i64_int (by omega) (by omega) (by omega) | assumption), (by first | rfl | exact i64_int (by omega) (by omega) (by omega) | assumption), (by first | rfl | exact i64_int (by omega) (by omega) (by omega) | assumption), (by first | rfl | exact i64_int (by omega) (by omega) (by omega) | assumption), (by first | rfl | exact i64_int (by omega) (by omega) (by omega) | assumption), (by first | rfl | exact i64_int (by omega) (by omega) (by omega) | assumption), (by first | rfl | exact i64_int (by omega) (by omega) (by omega) | assumption), (by first | rfl | exact i64_int (by omega) (by omega) (by omega) | assumption), (by first | rfl | exact i64_int (by omega) (by omega) (by omega) | assumption),  trivial⟩, hS5⟩
  rintro _ Hc6 ⟨cut, _, hcut, rfl, hSc6⟩
  try clear hS5
  refine AW.cut (fun e_ H_ => ∃ (keep : Int) (e0 : Env), (True) ∧ e_ = upds e0 [(0, .slice rops m0 c0), (1, vc), (2, vk), (7, .pointer (some ⟨b33, 0, none⟩)), (9, .pointer (some ⟨bs, 0, none⟩)), (11, nv), (12, .map (some b51)), (13, .int .i64 (i : Int)), (14, .pointer (some ⟨b14, 0, none⟩)), (15, .int .i64 cut), (16, .int .i64 keep)] ∧ Sep H [.blk b14 ⟨[.int .i64 (o i).ask, S (o i).dat, .int .i64 (o i).n, .bool (o i).sp], 4, 40⟩, .vec nv 46 2 st.l.length (rowsV recC st.l), .blk b51 (mpB (ents ((Value.int .i64)) m)), spC bs b33 ⟨st, 1000, false⟩ (firmT f)] H_) ?_ ?_
  ·
    refine AW.seq ?_
    refine AW.region ?_
    refine OpsW.q rfl (q_move (v := vk) rfl) ?_
    refine OpsW.q rfl (q_lenWN (hK _) Try.underlying42 rfl) ?_
    refine OpsW.q rfl (q_gtr rfl rfl) ?_
    refine OpsW.nil ?_
    refine SeqP.go ?_
    refine AW.cond rfl (fun h4 => ?_) (fun h4 => ?_)
    ·
      try simp only [eb56, decide_eq_true_eq, decide_eq_false_iff_not, Bool.or_eq_true, Bool.and_eq_true, Bool.or_eq_false_iff, Bool.and_eq_false_imp, Bool.not_eq_true', Bool.not_eq_false', ne_eq, Decidable.not_not, Int.not_lt, Int.not_le, Bool.not_eq_true, Bool.not_eq_false] at h4
      refine AW.region ?_
      refine OpsW.q rfl (q_move (v := vk) rfl) ?_
      refine OpsW.q rfl (q_move (v := .int _ _) rfl) ?_
      refine OpsW.q rfl (q_move (v := vk) rfl) ?_
      refine OpsW.q rfl (q_lenWN (hK _) Try.underlying42 rfl) ?_
      have hk0 : 0 ≤ (i : Int) % (ks.length : Int) := Int.emod_nonneg _ (by omega)
      have hk1 : (i : Int) % (ks.length : Int) < ks.length := Int.emod_lt_of_pos _ (by omega)
      refine OpsW.q rfl (q_remI rfl rfl (by omega)) ?_
      refine OpsW.q rfl (q_indexW (hK _) Try.underlying42 (by kernel_rfl) rfl rfl (by first | omega | decide) (by first | (with_reducible assumption) | omega | (unfold maxLen; omega) | (simp only [nums_length, List.length_set, List.length_replicate, List.length_take, List.length_drop, List.length_append, List.length_cons, List.length_nil, ofB_length, toB_length]; omega) | (simp only [nums_length, List.length_set, List.length_replicate, List.length_take, List.length_drop, List.length_append, List.length_cons, List.length_nil, ofB_length, toB_length]; unfold maxLen; omega) | (simp; done) | (simp; omega) | rfl | decide)) ?_
      refine OpsW.q rfl (q_loadWN (hK _) (by kernel_rfl) rfl (by first | (with_reducible assumption) | omega | (unfold maxLen; omega) | (simp only [nums_length, List.length_set, List.length_replicate, List.length_take, List.length_drop, List.length_append, List.length_cons, List.length_nil, ofB_length, toB_length]; omega) | (simp only [nums_length, List.length_set, List.length_replicate, List.length_take, List.length_drop, List.length_append, List.length_cons, List.length_nil, ofB_length, toB_length]; unfold maxLen; omega) | (simp; done) | (simp; omega) | rfl | decide)) ?_
      refine OpsW.q rfl (q_assign (v := .int _ _) rfl) ?_
      refine OpsW.nil ?_
      exact CutP.go ⟨ks.getD ((i : Int) % (ks.length : Int)).toNat 0, _, trivial, Slots.eq ⟨(by first | rfl | exact i64_int (by omega) (by omega) (by omega) | assumption), (by first | rfl | exact i64_int (by omega) (by omega) (by omega) | assumption), (by first | rfl | exact i64_int (by omega) (by omega) (by omega) | assumption), (by first | rfl | exact i64_int (by omega) (by omega) (by omega) | assumption), (by first | rfl | exact i64_int (by omega) (by omega) (by omega) | assumption), (by first | rfl | exact i64_int (by omega) (by omega) (by omega) | assumption), (by first | rfl | exact i64_int (by omega) (by omega) (by omega) | assumption), (by first | rfl | exact i64_int (by omega) (by omega) (by omega) | assumption), (by first | rfl | exact i64_int (by omega) (by omega) (by omega) | assumption), (by first | rfl | exact i64_int (by omega) (by omega) (by omega) | assumption), (by first | rfl | exact i64_int (by omega) (by omega) (by omega) | assumption),  trivial⟩, hSc6⟩
    try simp only [eb56, decide_eq_true_eq, decide_eq_false_iff_not, Bool.or_eq_true, Bool.and_eq_true, Bool.or_eq_false_iff, Bool.and_eq_false_imp, Bool.not_eq_true', Bool.not_eq_false', ne_eq, Decidable.not_not, Int.not_lt, Int.not_le, Bool.not_eq_true, Bool.not_eq_false] at h4
    refine AW.skip ?_
    exact CutP.go ⟨0, _, trivial, Slots.eq ⟨(by first | rfl | exact i64_int (by omega) (by omega) (by omega) | assumption), (by first | rfl | exact i64_int (by omega) (by omega) (by omega) | assumption), (by first | rfl | exact i64_int (by omega) (by omega) (by omega) | assumption), (by first | rfl | exact i64_int (by omega) (by omega) (by omega) | assumption), (by first | rfl | exact i64_int (by omega) (by omega) (by omega) | assumption), (by first | rfl | exact i64_int (by omega) (by omega) (by omega) | assumption), (by first | rfl | exact i64_int (by omega) (by omega) (by omega) | assumption), (by first | rfl | exact i64_int (by omega) (by omega) (by omega) | assumption), (by first | rfl | exact i64_int (by omega) (by omega) (by omega) | assumption), (by first | rfl | exact i64_int (by omega) (by omega) (by omega) | assumption), (by first | rfl | exact i64_int (by omega) (by omega) (by omega) | assumption),  trivial⟩, hSc6⟩
  rintro _ Hc7 ⟨keep, _, _, rfl, hSc7⟩
  try clear hSc6
  refine AW.seq ?_
  refine AW.region ?_
  refine OpsW.q rfl (q_move (v := .pointer _) rfl) ?_
  refine OpsW.q rfl (o_call rfl Try.func8 rfl rfl (Marks_x hSc7 (by first | exact at0 | exact at1 | exact at2 | exact at3))) ?_
  refine OpsW.q rfl (q_move (v := .tuple _) rfl) ?_
  refine OpsW.q rfl (q_extract (v := .int _ _) rfl rfl) ?_
  refine OpsW.q rfl (q_extract (v := .int _ _) rfl rfl) ?_
  refine OpsW.q rfl (q_assign (v := .int _ _) rfl) ?_
  refine OpsW.q rfl (q_assign (v := .int _ _) rfl) ?_
  refine OpsW.nil ?_
  refine SeqP.go ?_
  refine AW.seq ?_
  refine AW.region ?_
  refine OpsW.q rfl (q_move (v := .pointer _) rfl) ?_
  refine OpsW.q rfl (q_move (v := .int _ _) rfl) ?_
  obtain ⟨Hf8, le8, hA8, hB8⟩ := hSc7.framed at3
  refine OpsW.m rfl (o_call rfl Try.func13 rfl rfl (Arm_c hA8)) ?_
  rintro _ H8 ⟨rfl, hR8⟩
  have hS8 := hB8 _ _ hR8
  clear hR8 hB8 hA8
  clear hSc7
  refine OpsW.nil ?_
  refine SeqP.go ?_
  refine AW.seq ?_
  refine AW.region ?_
  refine OpsW.q rfl (q_move (v := nv) rfl) ?_
  refine OpsW.q rfl (q_assign (v := nv) rfl) ?_
  refine OpsW.nil ?_
  refine SeqP.go ?_
  refine AW.cut (fun e_ H_ => ∃ (H1 : Hp) (nv2 nx2 : Value) (now2 next2 : RecL) (m2 : List (Int × Value)) (x2 : SpF) (t2 : TapeS) (e0 : Env), (H.le H1 ∧ Vec H1 46 2 nv2 now2.length (rowsV recC now2) ∧ Vec H1 46 2 nx2 next2.length (rowsV recC next2) ∧ Sit i st.ak st.la now2 next2 m2 t2 ∧ now2.length ≤ 100000 ∧ next2.length ≤ 100000) ∧ e_ = upds e0 [(0, .slice rops m0 c0), (1, vc), (2, vk), (7, .pointer (some ⟨b33, 0, none⟩)), (9, .pointer (some ⟨bs, 0, none⟩)), (11, nv2), (12, .map (some b51)), (13, .int .i64 (i : Int)), (15, .int .i64 cut), (16, .int .i64 keep), (17, .int .i64 st.ak), (18, .int .i64 st.la), (19, nx2)] ∧ Sep H1 [.blk b51 (mpB (ents ((Value.int .i64)) m2)), spC bs b33 x2 t2] H_) ?_ ?_
  ·
    refine AW.seq ?_
    refine AW.region ?_
    refine OpsW.q rfl (q_fieldAddr (sz := 0) Try.underlying40 rfl (by kernel_rfl) rfl) ?_
    refine OpsW.q rfl (q_load (v := .int _ _) (by kernel_rfl) rfl (hS8.blk at0) rfl) ?_
    refine OpsW.q rfl (q_eql rfl rfl) ?_
    refine OpsW.nil ?_
    refine SeqP.go ?_
    refine AW.cond rfl (fun h5 => ?_) (fun h5 => ?_)
    ·
      try simp only [eb56, decide_eq_true_eq, decide_eq_false_iff_not, Bool.or_eq_true, Bool.and_eq_true, Bool.or_eq_false_iff, Bool.and_eq_false_imp, Bool.not_eq_true', Bool.not_eq_false', ne_eq, Decidable.not_not, Int.not_lt, Int.not_le, Bool.not_eq_true, Bool.not_eq_false] at h5
      have htkA := tk_arm (hL.tk (by omega)) hcut
      refine AW.seq ?_
      rcases put_sit (d := (o i).dat) hL (by omega) hmk hcut with ⟨hpd, hpe, hpsit⟩ | ⟨hpd, x2, t2, hpe, hpc, hpsit⟩ | ⟨hpd, x2, t2, hpe, hpsit⟩
      ·
        refine AW.region ?_
        refine OpsW.q rfl (q_move (v := .pointer _) rfl) ?_
        refine OpsW.q rfl (q_fieldAddr (sz := 0) Try.underlying40 rfl (by kernel_rfl) rfl) ?_
        refine OpsW.q rfl (q_load (v := S _) (by kernel_rfl) rfl (hS8.blk at0) rfl) ?_
        obtain ⟨Hf9, le9, hA9, hB9⟩ := hS8.framed at3
        refine OpsW.m rfl (o_call rfl Try.func7 rfl rfl (Put_e hA9 hL.ok htkA (by omega) hpe)) ?_
        rintro _ H9 ⟨rfl, hR9⟩
        have hS9 := hB9 _ _ hR9
        clear hR9 hB9 hA9
        clear hS8
        refine OpsW.q rfl (q_move (v := .tuple _) rfl) ?_
        refine OpsW.q rfl (q_extract (v := .int _ _) rfl rfl) ?_
        refine OpsW.q rfl (q_extract (v := .int _ _) rfl rfl) ?_
        refine OpsW.q rfl (q_assign (v := .int _ _) rfl) ?_
        refine OpsW.q rfl (q_assign (v := .int _ _) rfl) ?_
        refine OpsW.nil ?_
        refine SeqP.go ?_
        refine AW.seq ?_
        refine AW.seq ?_
        refine AW.region ?_
        refine OpsW.q rfl (q_move (v := .int _ _) rfl) ?_
        refine OpsW.q rfl (q_eql rfl rfl) ?_
        refine OpsW.nil ?_
        refine SeqP.go ?_
        refine AW.cond rfl (fun h6 => ?_) (fun h6 => ?_)
        ·
          exfalso
          try simp only [eb56, decide_eq_true_eq, decide_eq_false_iff_not, Bool.or_eq_true, Bool.and_eq_true, Bool.or_eq_false_iff, Bool.and_eq_false_imp, Bool.not_eq_true', Bool.not_eq_false', ne_eq, Decidable.not_not, Int.not_lt, Int.not_le, Bool.not_eq_true, Bool.not_eq_false] at h6
          simp at h6
        try simp only [eb56, decide_eq_true_eq, decide_eq_false_iff_not, Bool.or_eq_true, Bool.and_eq_true, Bool.or_eq_false_iff, Bool.and_eq_false_imp, Bool.not_eq_true', Bool.not_eq_false', ne_eq, Decidable.not_not, Int.not_lt, Int.not_le, Bool.not_eq_true, Bool.not_eq_false] at h6
        refine AW.skip ?_
        refine SeqP.go ?_
        refine AW.seq ?_
        refine AW.seq ?_
        refine AW.region ?_
        refine OpsW.q rfl (q_fieldAddr (sz := 0) Try.underlying40 rfl (by kernel_rfl) rfl) ?_
        refine OpsW.q rfl (q_load (v := S _) (by kernel_rfl) rfl (hS9.blk at0) rfl) ?_
        refine OpsW.q rfl (q_lenS Try.underlying9 rfl) ?_
        refine OpsW.q rfl (q_geq rfl rfl) ?_
        refine OpsW.qb rfl (q_move (v := .bool _) rfl) ?_
        intro b124 eb124
        refine OpsW.g rfl rfl rfl (fun hB => by simp only [Bool.and_eq_true, beq_iff_eq] at hB; obtain rfl := hB; exact (q_fieldAddr (sz := 0) Try.underlying40 rfl (by kernel_rfl) rfl)) ?_
        refine OpsW.g rfl rfl rfl (fun hB => by simp only [Bool.and_eq_true, beq_iff_eq] at hB; obtain rfl := hB; exact (q_load (v := S _) (by kernel_rfl) rfl (hS9.blk at0) rfl)) ?_
        refine OpsW.g rfl rfl rfl (fun hB => by simp only [Bool.and_eq_true, beq_iff_eq] at hB; obtain rfl := hB; exact (q_lenS Try.underlying9 rfl)) ?_
        refine OpsW.g rfl rfl rfl (fun hB => by simp only [Bool.and_eq_true, beq_iff_eq] at hB; obtain rfl := hB; exact (q_leq rfl rfl)) ?_
        refine OpsW.q rfl (q_and2 rfl rfl rfl) ?_
        refine OpsW.nil ?_
        refine SeqP.go ?_
        refine AW.cond rfl (fun h8 => ?_) (fun h8 => ?_)
        ·
          exfalso
          try simp only [eb56, eb124, decide_eq_true_eq, decide_eq_false_iff_not, Bool.or_eq_true, Bool.and_eq_true, Bool.or_eq_false_iff, Bool.and_eq_false_imp, Bool.not_eq_true', Bool.not_eq_false', ne_eq, Decidable.not_not, Int.not_lt, Int.not_le, Bool.not_eq_true, Bool.not_eq_false] at h8
          rcases hpd with e | e
          · rw [e] at h8; simp at h8
          · omega
        try simp only [eb56, eb124, decide_eq_true_eq, decide_eq_false_iff_not, Bool.or_eq_true, Bool.and_eq_true, Bool.or_eq_false_iff, Bool.and_eq_false_imp, Bool.not_eq_true', Bool.not_eq_false', ne_eq, Decidable.not_not, Int.not_lt, Int.not_le, Bool.not_eq_true, Bool.not_eq_false] at h8
        refine AW.skip ?_
        refine SeqP.go ?_
        refine AW.seq ?_
        refine AW.region ?_
        refine OpsW.q rfl (q_move (v := .int _ _) rfl) ?_
        refine OpsW.q rfl (q_eql rfl rfl) ?_
        refine OpsW.nil ?_
        refine SeqP.go ?_
        refine AW.cond rfl (fun h9 => ?_) (fun h9 => ?_)
        ·
          exfalso
          try simp only [eb56, eb124, decide_eq_true_eq, decide_eq_false_iff_not, Bool.or_eq_true, Bool.and_eq_true, Bool.or_eq_false_iff, Bool.and_eq_false_imp, Bool.not_eq_true', Bool.not_eq_false', ne_eq, Decidable.not_not, Int.not_lt, Int.not_le, Bool.not_eq_true, Bool.not_eq_false] at h9
          simp at h9
        try simp only [eb56, eb124, decide_eq_true_eq, decide_eq_false_iff_not, Bool.or_eq_true, Bool.and_eq_true, Bool.or_eq_false_iff, Bool.and_eq_false_imp, Bool.not_eq_true', Bool.not_eq_false', ne_eq, Decidable.not_not, Int.not_lt, Int.not_le, Bool.not_eq_true, Bool.not_eq_false] at h9
        refine AW.seq ?_
        refine AW.region ?_
        refine OpsW.q rfl (q_move (v := .int _ _) rfl) ?_
        refine OpsW.q rfl (q_neq rfl rfl) ?_
        refine OpsW.qb rfl (q_move (v := .bool _) rfl) ?_
        intro b145 eb145
        refine OpsW.g rfl rfl rfl (fun hB => by simp only [Bool.and_eq_true, beq_iff_eq] at hB; obtain rfl := hB; exact (q_move (v := .int _ _) rfl)) ?_
        refine OpsW.g rfl rfl rfl (fun hB => by simp only [Bool.and_eq_true, beq_iff_eq] at hB; obtain rfl := hB; exact (q_neq rfl rfl)) ?_
        refine OpsW.gb rfl rfl rfl (fun hB => by simp only [Bool.and_eq_true, beq_iff_eq] at hB; obtain rfl := hB; exact (q_move (v := .bool _) rfl)) ?_
        intro b148 eb148
        refine OpsW.gg rfl rfl rfl (fun hB => by simp only [Bool.and_eq_true, beq_iff_eq] at hB; obtain ⟨rfl, rfl⟩ := hB; exact (q_move (v := .int _ _) rfl)) ?_
        refine OpsW.gg rfl rfl rfl (fun hB => by simp only [Bool.and_eq_true, beq_iff_eq] at hB; obtain ⟨rfl, rfl⟩ := hB; exact (q_lss rfl rfl)) ?_
        refine OpsW.g rfl rfl rfl (fun hB => by simp only [Bool.and_eq_true, beq_iff_eq] at hB; obtain rfl := hB; exact (q_or2 rfl rfl rfl)) ?_
        refine OpsW.q rfl (q_and2 rfl rfl rfl) ?_
        refine OpsW.nil ?_
        refine SeqP.go ?_
        refine AW.cond rfl (fun h10 => ?_) (fun h10 => ?_)
        ·
          exfalso
          try simp only [eb56, eb124, eb145, eb148, decide_eq_true_eq, decide_eq_false_iff_not, Bool.or_eq_true, Bool.and_eq_true, Bool.or_eq_false_iff, Bool.and_eq_false_imp, Bool.not_eq_true', Bool.not_eq_false', ne_eq, Decidable.not_not, Int.not_lt, Int.not_le, Bool.not_eq_true, Bool.not_eq_false] at h10
          simp_all <;> omega
        try simp only [eb56, eb124, eb145, eb148, decide_eq_true_eq, decide_eq_false_iff_not, Bool.or_eq_true, Bool.and_eq_true, Bool.or_eq_false_iff, Bool.and_eq_false_imp, Bool.not_eq_true', Bool.not_eq_false', ne_eq, Decidable.not_not, Int.not_lt, Int.not_le, Bool.not_eq_true, Bool.not_eq_false] at h10
        refine AW.skip ?_
        obtain ⟨HN, hleN, hvN, hSN⟩ := (Sep.bring del1 hS9).freeze
        replace hSN := hSN.del del0
        exact CutP.go ⟨HN, nv, nv, st.l, st.l, m, _, _, _, ⟨hleN, hvN, hvN, hpsit st.l, hll, hll⟩, Slots.eq ⟨(by first | rfl | exact i64_int (by omega) (by omega) (by omega) | assumption), (by first | rfl | exact i64_int (by omega) (by omega) (by omega) | assumption), (by first | rfl | exact i64_int (by omega) (by omega) (by omega) | assumption), (by first | rfl | exact i64_int (by omega) (by omega) (by omega) | assumption), (by first | rfl | exact i64_int (by omega) (by omega) (by omega) | assumption), (by first | rfl | exact i64_int (by omega) (by omega) (by omega) | assumption), (by first | rfl | exact i64_int (by omega) (by omega) (by omega) | assumption), (by first | rfl | exact i64_int (by omega) (by omega) (by omega) | assumption), (by first | rfl | exact i64_int (by omega) (by omega) (by omega) | assumption), (by first | rfl | exact i64_int (by omega) (by omega) (by omega) | assumption), (by first | rfl | exact i64_int (by omega) (by omega) (by omega) | assumption), (by first | rfl | exact i64_int (by omega) (by omega) (by omega) | assumption), (by first | rfl | exact i64_int (by omega) (by omega) (by omega) | assumption),  trivial⟩, hSN⟩
      ·
        refine AW.region ?_
        refine OpsW.q rfl (q_move (v := .pointer _) rfl) ?_
        refine OpsW.q rfl (q_fieldAddr (sz := 0) Try.underlying40 rfl (by kernel_rfl) rfl) ?_
        refine OpsW.q rfl (q_load (v := S _) (by kernel_rfl) rfl (hS8.blk at0) rfl) ?_
        obtain ⟨Hf10, le10, hA10, hB10⟩ := hS8.framed at3
        refine OpsW.m rfl (o_call rfl Try.func7 rfl rfl (Put_e hA10 hL.ok htkA (by omega) hpe)) ?_
        rintro _ H10 ⟨rfl, hR10⟩
        have hS10 := hB10 _ _ hR10
        clear hR10 hB10 hA10
        clear hS8
        refine OpsW.q rfl (q_move (v := .tuple _) rfl) ?_
        refine OpsW.q rfl (q_extract (v := .int _ _) rfl rfl) ?_
        refine OpsW.q rfl (q_extract (v := .int _ _) rfl rfl) ?_
        refine OpsW.q rfl (q_assign (v := .int _ _) rfl) ?_
        refine OpsW.q rfl (q_assign (v := .int _ _) rfl) ?_
        refine OpsW.nil ?_
        refine SeqP.go ?_
        refine AW.seq ?_
        refine AW.seq ?_
        refine AW.region ?_
        refine OpsW.q rfl (q_move (v := .int _ _) rfl) ?_
        refine OpsW.q rfl (q_eql rfl rfl) ?_
        refine OpsW.nil ?_
        refine SeqP.go ?_
        refine AW.cond rfl (fun h6 => ?_) (fun h6 => ?_)
        ·
          exfalso
          try simp only [eb56, decide_eq_true_eq, decide_eq_false_iff_not, Bool.or_eq_true, Bool.and_eq_true, Bool.or_eq_false_iff, Bool.and_eq_false_imp, Bool.not_eq_true', Bool.not_eq_false', ne_eq, Decidable.not_not, Int.not_lt, Int.not_le, Bool.not_eq_true, Bool.not_eq_false] at h6
          simp at h6
        try simp only [eb56, decide_eq_true_eq, decide_eq_false_iff_not, Bool.or_eq_true, Bool.and_eq_true, Bool.or_eq_false_iff, Bool.and_eq_false_imp, Bool.not_eq_true', Bool.not_eq_false', ne_eq, Decidable.not_not, Int.not_lt, Int.not_le, Bool.not_eq_true, Bool.not_eq_false] at h6
        refine AW.skip ?_
        refine SeqP.go ?_
        refine AW.cut (fun e_ H_ => ∃ (nxv : Value) (e0 : Env), (True) ∧ e_ = upds e0 [(0, .slice rops m0 c0), (1, vc), (2, vk), (7, .pointer (some ⟨b33, 0, none⟩)), (9, .pointer (some ⟨bs, 0, none⟩)), (11, nv), (12, .map (some b51)), (13, .int .i64 (i : Int)), (14, .pointer (some ⟨b14, 0, none⟩)), (15, .int .i64 cut), (16, .int .i64 keep), (17, .int .i64 st.ak), (18, .int .i64 st.la), (19, nxv), (21, .int .i64 41)] ∧ Sep H [.vec nxv 46 2 ((st.l ++ ([⟨st.la + 1, (o i).dat⟩] : RecL)).length) (rowsV recC (st.l ++ ([⟨st.la + 1, (o i).dat⟩] : RecL))), .vec nv 46 2 st.l.length (rowsV recC st.l), .blk b51 (mpB (ents ((Value.int .i64)) m)), spC bs b33 x2 t2] H_) ?_ ?_
        ·
          refine AW.seq ?_
          refine AW.region ?_
          refine OpsW.q rfl (q_fieldAddr (sz := 0) Try.underlying40 rfl (by kernel_rfl) rfl) ?_
          refine OpsW.q rfl (q_load (v := S _) (by kernel_rfl) rfl (hS10.blk at0) rfl) ?_
          refine OpsW.q rfl (q_lenS Try.underlying9 rfl) ?_
          refine OpsW.q rfl (q_geq rfl rfl) ?_
          refine OpsW.qb rfl (q_move (v := .bool _) rfl) ?_
          intro b124 eb124
          refine OpsW.g rfl rfl rfl (fun hB => by simp only [Bool.and_eq_true, beq_iff_eq] at hB; obtain rfl := hB; exact (q_fieldAddr (sz := 0) Try.underlying40 rfl (by kernel_rfl) rfl)) ?_
          refine OpsW.g rfl rfl rfl (fun hB => by simp only [Bool.and_eq_true, beq_iff_eq] at hB; obtain rfl := hB; exact (q_load (v := S _) (by kernel_rfl) rfl (hS10.blk at0) rfl)) ?_
          refine OpsW.g rfl rfl rfl (fun hB => by simp only [Bool.and_eq_true, beq_iff_eq] at hB; obtain rfl := hB; exact (q_lenS Try.underlying9 rfl)) ?_
          refine OpsW.g rfl rfl rfl (fun hB => by simp only [Bool.and_eq_true, beq_iff_eq] at hB; obtain rfl := hB; exact (q_leq rfl rfl)) ?_
          refine OpsW.q rfl (q_and2 rfl rfl rfl) ?_
          refine OpsW.nil ?_
          refine SeqP.go ?_
          refine AW.cond rfl (fun h8 => ?_) (fun h8 => ?_)
          ·
            try simp only [eb56, eb124, decide_eq_true_eq, decide_eq_false_iff_not, Bool.or_eq_true, Bool.and_eq_true, Bool.or_eq_false_iff, Bool.and_eq_false_imp, Bool.not_eq_true', Bool.not_eq_false', ne_eq, Decidable.not_not, Int.not_lt, Int.not_le, Bool.not_eq_true, Bool.not_eq_false] at h8
            refine AW.steps rfl 11 rfl ?_
            refine AnyW.first 1 rfl (by kernel_rfl) (by kernel_rfl) (by kernel_rfl) rfl (dst_lt rfl) (v_move (v := nv) rfl) ?_
            refine AnyW.first 3 rfl (by kernel_rfl) (by kernel_rfl) (by kernel_rfl) rfl (dst_lt rfl) (v_move (v := .int _ _) rfl) ?_
            refine AnyW.first 4 rfl (by kernel_rfl) (by kernel_rfl) (by kernel_rfl) rfl (dst_lt rfl) (v_addI rfl rfl (by omega)) ?_
            refine AnyW.first 5 rfl (by kernel_rfl) (by kernel_rfl) (by kernel_rfl) rfl (dst_lt rfl) (v_fieldAddr (sz := 0) Try.underlying40 rfl (by kernel_rfl) rfl) ?_
            refine AnyW.two 0 6 rfl rfl (by kernel_rfl) rfl rfl (dst_lt rfl) (dst_lt rfl) (s_buildSlice0 hS10 Try.underlying31 (sz := 2) (by kernel_rfl)) (q_load (v := S _) (by kernel_rfl) rfl (hS10.blk at0) rfl) ?_ ?_
            ·
              rintro v130 H11 hS11
              clear hS10
              refine AnyW.two 2 6 rfl rfl (by kernel_rfl) rfl rfl (dst_lt rfl) (dst_lt rfl) (s_append (sz := 2) (by_ := 24) (z := .agg #[.int .i64 0, S []]) hS11 at0 Try.underlying31 (by kernel_rfl) (by kernel_rfl) (by kernel_rfl) rfl (by kernel_rfl) rfl rfl (src_vec (hS11.vec (by first | exact at0 | exact at1 | exact at2 | exact at3 | exact at4)) (fun u hu => by obtain ⟨r, _, hr⟩ := List.mem_flatMap.1 hu; exact recC_one r u hr)) (by first | (with_reducible assumption) | omega | (unfold maxLen; omega) | (simp only [nums_length, List.length_set, List.length_replicate, List.length_take, List.length_drop, List.length_append, List.length_cons, List.length_nil, ofB_length, toB_length]; omega) | (simp only [nums_length, List.length_set, List.length_replicate, List.length_take, List.length_drop, List.length_append, List.length_cons, List.length_nil, ofB_length, toB_length]; unfold maxLen; omega) | (simp; done) | (simp; omega) | rfl | decide) (by first | (with_reducible assumption) | omega | (unfold maxLen; omega) | (simp only [nums_length, List.length_set, List.length_replicate, List.length_take, List.length_drop, List.length_append, List.length_cons, List.length_nil, ofB_length, toB_length]; omega) | (simp only [nums_length, List.length_set, List.length_replicate, List.length_take, List.length_drop, List.length_append, List.length_cons, List.length_nil, ofB_length, toB_length]; unfold maxLen; omega) | (simp; done) | (simp; omega) | rfl | decide)) (q_load (v := S _) (by kernel_rfl) rfl (hS11.blk at1) rfl) ?_ ?_
              ·
                rintro v132 H12 hS12
                clear hS11
                refine AnyW.onlyQ 6 rfl (by kernel_rfl) rfl (dst_lt rfl) (q_load (v := S _) (by kernel_rfl) rfl (hS12.blk at1) rfl) ?_
                refine AnyW.onlyQ 7 rfl (by kernel_rfl) rfl (dst_lt rfl) (q_build (cells := #[.int .i64 (st.la + 1), S (o i).dat]) rfl (by kernel_rfl)) ?_
                refine AnyW.only 8 rfl (by kernel_rfl) rfl (dst_lt rfl) (s_buildSlice2 (z := .agg #[.int .i64 0, S []]) hS12 Try.underlying31 (by kernel_rfl) (by kernel_rfl) rfl) ?_
                rintro v138 H13 hS13
                clear hS12
                refine AnyW.only 9 rfl (by kernel_rfl) rfl (dst_lt rfl) (s_append (sz := 2) (by_ := 24) (z := .agg #[.int .i64 0, S []]) hS13 at1 Try.underlying31 (by kernel_rfl) (by kernel_rfl) (by kernel_rfl) rfl (by kernel_rfl) rfl rfl (src_vec (hS13.vec (by first | exact at0 | exact at1)) (fun u hu => recC_one ⟨st.la + 1, (o i).dat⟩ u hu)) (by first | (with_reducible assumption) | omega | (unfold maxLen; omega) | (simp only [nums_length, List.length_set, List.length_replicate, List.length_take, List.length_drop, List.length_append, List.length_cons, List.length_nil, ofB_length, toB_length]; omega) | (simp only [nums_length, List.length_set, List.length_replicate, List.length_take, List.length_drop, List.length_append, List.length_cons, List.length_nil, ofB_length, toB_length]; unfold maxLen; omega) | (simp; done) | (simp; omega) | rfl | decide) (by first | (with_reducible assumption) | omega | (unfold maxLen; omega) | (simp only [nums_length, List.length_set, List.length_replicate, List.length_take, List.length_drop, List.length_append, List.length_cons, List.length_nil, ofB_length, toB_length]; omega) | (simp only [nums_length, List.length_set, List.length_replicate, List.length_take, List.length_drop, List.length_append, List.length_cons, List.length_nil, ofB_length, toB_length]; unfold maxLen; omega) | (simp; done) | (simp; omega) | rfl | decide)) ?_
                rintro v139 H14 hS14
                clear hS13
                replace hS14 := hS14.del del0
                refine AnyW.onlyQ 10 rfl (by kernel_rfl) rfl (dst_lt rfl) (q_assign (v := v139) rfl) ?_
                refine AnyW.done (by kernel_rfl) ?_
                replace hS14 := hS14.del del1
                exact CutP.go ⟨v139, _, trivial, Slots.eq ⟨(by first | rfl | exact i64_int (by omega) (by omega) (by omega) | assumption), (by first | rfl | exact i64_int (by omega) (by omega) (by omega) | assumption), (by first | rfl | exact i64_int (by omega) (by omega) (by omega) | assumption), (by first | rfl | exact i64_int (by omega) (by omega) (by omega) | assumption), (by first | rfl | exact i64_int (by omega) (by omega) (by omega) | assumption), (by first | rfl | exact i64_int (by omega) (by omega) (by omega) | assumption), (by first | rfl | exact i64_int (by omega) (by omega) (by omega) | assumption), (by first | rfl | exact i64_int (by omega) (by omega) (by omega) | assumption), (by first | rfl | exact i64_int (by omega) (by omega) (by omega) | assumption), (by first | rfl | exact i64_int (by omega) (by omega) (by omega) | assumption), (by first | rfl | exact i64_int (by omega) (by omega) (by omega) | assumption), (by first | rfl | exact i64_int (by omega) (by omega) (by omega) | assumption), (by first | rfl | exact i64_int (by omega) (by omega) (by omega) | assumption), (by first | rfl | exact i64_int (by omega) (by omega) (by omega) | assumption), (by first | rfl | exact i64_int (by omega) (by omega) (by omega) | assumption),  trivial⟩, (by rw [List.length_append, rowsV_append, rowsV_one]; simpa using hS14)⟩
              ·
                rintro _ _ ⟨rfl, rfl⟩
                refine AnyW.first 7 rfl (by kernel_rfl) (by kernel_rfl) (by kernel_rfl) rfl (dst_lt rfl) (v_build (cells := #[.int .i64 (st.la + 1), S (o i).dat]) rfl (by kernel_rfl)) ?_
                refine AnyW.two 2 8 rfl rfl (by kernel_rfl) rfl rfl (dst_lt rfl) (dst_lt rfl) (s_append (sz := 2) (by_ := 24) (z := .agg #[.int .i64 0, S []]) hS11 at0 Try.underlying31 (by kernel_rfl) (by kernel_rfl) (by kernel_rfl) rfl (by kernel_rfl) rfl rfl (src_vec (hS11.vec (by first | exact at0 | exact at1 | exact at2 | exact at3 | exact at4)) (fun u hu => by obtain ⟨r, _, hr⟩ := List.mem_flatMap.1 hu; exact recC_one r u hr)) (by first | (with_reducible assumption) | omega | (unfold maxLen; omega) | (simp only [nums_length, List.length_set, List.length_replicate, List.length_take, List.length_drop, List.length_append, List.length_cons, List.length_nil, ofB_length, toB_length]; omega) | (simp only [nums_length, List.length_set, List.length_replicate, List.length_take, List.length_drop, List.length_append, List.length_cons, List.length_nil, ofB_length, toB_length]; unfold maxLen; omega) | (simp; done) | (simp; omega) | rfl | decide) (by first | (with_reducible assumption) | omega | (unfold maxLen; omega) | (simp only [nums_length, List.length_set, List.length_replicate, List.length_take, List.length_drop, List.length_append, List.length_cons, List.length_nil, ofB_length, toB_length]; omega) | (simp only [nums_length, List.length_set, List.length_replicate, List.length_take, List.length_drop, List.length_append, List.length_cons, List.length_nil, ofB_length, toB_length]; unfold maxLen; omega) | (simp; done) | (simp; omega) | rfl | decide)) (s_buildSlice2 (z := .agg #[.int .i64 0, S []]) hS11 Try.underlying31 (by kernel_rfl) (by kernel_rfl) rfl) ?_ ?_
                ·
                  rintro v132 H15 hS15
                  clear hS11
                  refine AnyW.only 8 rfl (by kernel_rfl) rfl (dst_lt rfl) (s_buildSlice2 (z := .agg #[.int .i64 0, S []]) hS15 Try.underlying31 (by kernel_rfl) (by kernel_rfl) rfl) ?_
                  rintro v138 H16 hS16
                  clear hS15
                  refine AnyW.only 9 rfl (by kernel_rfl) rfl (dst_lt rfl) (s_append (sz := 2) (by_ := 24) (z := .agg #[.int .i64 0, S []]) hS16 at1 Try.underlying31 (by kernel_rfl) (by kernel_rfl) (by kernel_rfl) rfl (by kernel_rfl) rfl rfl (src_vec (hS16.vec (by first | exact at0 | exact at1)) (fun u hu => recC_one ⟨st.la + 1, (o i).dat⟩ u hu)) (by first | (with_reducible assumption) | omega | (unfold maxLen; omega) | (simp only [nums_length, List.length_set, List.length_replicate, List.length_take, List.length_drop, List.length_append, List.length_cons, List.length_nil, ofB_length, toB_length]; omega) | (simp only [nums_length, List.length_set, List.length_replicate, List.length_take, List.length_drop, List.length_append, List.length_cons, List.length_nil, ofB_length, toB_length]; unfold maxLen; omega) | (simp; done) | (simp; omega) | rfl | decide) (by first | (with_reducible assumption) | omega | (unfold maxLen; omega) | (simp only [nums_length, List.length_set, List.length_replicate, List.length_take, List.length_drop, List.length_append, List.length_cons, List.length_nil, ofB_length, toB_length]; omega) | (simp only [nums_length, List.length_set, List.length_replicate, List.length_take, List.length_drop, List.length_append, List.length_cons, List.length_nil, ofB_length, toB_length]; unfold maxLen; omega) | (simp; done) | (simp; omega) | rfl | decide)) ?_
                  rintro v139 H17 hS17
                  clear hS16
                  replace hS17 := hS17.del del0
                  refine AnyW.onlyQ 10 rfl (by kernel_rfl) rfl (dst_lt rfl) (q_assign (v := v139) rfl) ?_
                  refine AnyW.done (by kernel_rfl) ?_
                  replace hS17 := hS17.del del1
                  exact CutP.go ⟨v139, _, trivial, Slots.eq ⟨(by first | rfl | exact i64_int (by omega) (by omega) (by omega) | assumption), (by first | rfl | exact i64_int (by omega) (by omega) (by omega) | assumption), (by first | rfl | exact i64_int (by omega) (by omega) (by omega) | assumption), (by first | rfl | exact i64_int (by omega) (by omega) (by omega) | assumption), (by first | rfl | exact i64_int (by omega) (by omega) (by omega) | assumption), (by first | rfl | exact i64_int (by omega) (by omega) (by omega) | assumption), (by first | rfl | exact i64_int (by omega) (by omega) (by omega) | assumption), (by first | rfl | exact i64_int (by omega) (by omega) (by omega) | assumption), (by first | rfl | exact i64_int (by omega) (by omega) (by omega) | assumption), (by first | rfl | exact i64_int (by omega) (by omega) (by omega) | assumption), (by first | rfl | exact i64_int (by omega) (by omega) (by omega) | assumption), (by first | rfl | exact i64_int (by omega) (by omega) (by omega) | assumption), (by first | rfl | exact i64_int (by omega) (by omega) (by omega) | assumption), (by first | rfl | exact i64_int (by omega) (by omega) (by omega) | assumption), (by first | rfl | exact i64_int (by omega) (by omega) (by omega) | assumption),  trivial⟩, (by rw [List.length_append, rowsV_append, rowsV_one]; simpa using hS17)⟩
                ·
                  rintro v138 H18 hS18
                  clear hS11
                  refine AnyW.only 2 rfl (by kernel_rfl) rfl (dst_lt rfl) (s_append (sz := 2) (by_ := 24) (z := .agg #[.int .i64 0, S []]) hS18 at1 Try.underlying31 (by kernel_rfl) (by kernel_rfl) (by kernel_rfl) rfl (by kernel_rfl) rfl rfl (src_vec (hS18.vec (by first | exact at0 | exact at1 | exact at2 | exact at3 | exact at4)) (fun u hu => by obtain ⟨r, _, hr⟩ := List.mem_flatMap.1 hu; exact recC_one r u hr)) (by first | (with_reducible assumption) | omega | (unfold maxLen; omega) | (simp only [nums_length, List.length_set, List.length_replicate, List.length_take, List.length_drop, List.length_append, List.length_cons, List.length_nil, ofB_length, toB_length]; omega) | (simp only [nums_length, List.length_set, List.length_replicate, List.length_take, List.length_drop, List.length_append, List.length_cons, List.length_nil, ofB_length, toB_length]; unfold maxLen; omega) | (simp; done) | (simp; omega) | rfl | decide) (by first | (with_reducible assumption) | omega | (unfold maxLen; omega) | (simp only [nums_length, List.length_set, List.length_replicate, List.length_take, List.length_drop, List.length_append, List.length_cons, List.length_nil, ofB_length, toB_length]; omega) | (simp only [nums_length, List.length_set, List.length_replicate, List.length_take, List.length_drop, List.length_append, List.length_cons, List.length_nil, ofB_length, toB_length]; unfold maxLen; omega) | (simp; done) | (simp; omega) | rfl | decide)) ?_
                  rintro v132 H19 hS19
                  clear hS18
                  refine AnyW.only 9 rfl (by kernel_rfl) rfl (dst_lt rfl) (s_append (sz := 2) (by_ := 24) (z := .agg #[.int .i64 0, S []]) hS19 at1 Try.underlying31 (by kernel_rfl) (by kernel_rfl) (by kernel_rfl) rfl (by kernel_rfl) rfl rfl (src_vec (hS19.vec (by first | exact at0 | exact at1)) (fun u hu => recC_one ⟨st.la + 1, (o i).dat⟩ u hu)) (by first | (with_reducible assumption) | omega | (unfold maxLen; omega) | (simp only [nums_length, List.length_set, List.length_replicate, List.length_take, List.length_drop, List.length_append, List.length_cons, List.length_nil, ofB_length, toB_length]; omega) | (simp only [nums_length, List.length_set, List.length_replicate, List.length_take, List.length_drop, List.length_append, List.length_cons, List.length_nil, ofB_length, toB_length]; unfold maxLen; omega) | (simp; done) | (simp; omega) | rfl | decide) (by first | (with_reducible assumption) | omega | (unfold maxLen; omega) | (simp only [nums_length, List.length_set, List.length_replicate, List.length_take, List.length_drop, List.length_append, List.length_cons, List.length_nil, ofB_length, toB_length]; omega) | (simp only [nums_length, List.length_set, List.length_replicate, List.length_take, List.length_drop, List.length_append, List.length_cons, List.length_nil, ofB_length, toB_length]; unfold maxLen; omega) | (simp; done) | (simp; omega) | rfl | decide)) ?_
                  rintro v139 H20 hS20
                  clear hS19
                  replace hS20 := hS20.del del0
                  refine AnyW.onlyQ 10 rfl (by kernel_rfl) rfl (dst_lt rfl) (q_assign (v := v139) rfl) ?_
                  refine AnyW.done (by kernel_rfl) ?_
                  replace hS20 := hS20.del del1
                  exact CutP.go ⟨v139, _, trivial, Slots.eq ⟨(by first | rfl | exact i64_int (by omega) (by omega) (by omega) | assumption), (by first | rfl | exact i64_int (by omega) (by omega) (by omega) | assumption), (by first | rfl | exact i64_int (by omega) (by omega) (by omega) | assumption), (by first | rfl | exact i64_int (by omega) (by omega) (by omega) | assumption), (by first | rfl | exact i64_int (by omega) (by omega) (by omega) | assumption), (by first | rfl | exact i64_int (by omega) (by omega) (by omega) | assumption), (by first | rfl | exact i64_int (by omega) (by omega) (by omega) | assumption), (by first | rfl | exact i64_int (by omega) (by omega) (by omega) | assumption), (by first | rfl | exact i64_int (by omega) (by omega) (by omega) | assumption), (by first | rfl | exact i64_int (by omega) (by omega) (by omega) | assumption), (by first | rfl | exact i64_int (by omega) (by omega) (by omega) | assumption), (by first | rfl | exact i64_int (by omega) (by omega) (by omega) | assumption), (by first | rfl | exact i64_int (by omega) (by omega) (by omega) | assumption), (by first | rfl | exact i64_int (by omega) (by omega) (by omega) | assumption), (by first | rfl | exact i64_int (by omega) (by omega) (by omega) | assumption),  trivial⟩, (by rw [List.length_append, rowsV_append, rowsV_one]; simpa using hS20)⟩
            ·
              rintro _ _ ⟨rfl, rfl⟩
              refine AnyW.first 7 rfl (by kernel_rfl) (by kernel_rfl) (by kernel_rfl) rfl (dst_lt rfl) (v_build (cells := #[.int .i64 (st.la + 1), S (o i).dat]) rfl (by kernel_rfl)) ?_
              refine AnyW.two 0 8 rfl rfl (by kernel_rfl) rfl rfl (dst_lt rfl) (dst_lt rfl) (s_buildSlice0 hS10 Try.underlying31 (sz := 2) (by kernel_rfl)) (s_buildSlice2 (z := .agg #[.int .i64 0, S []]) hS10 Try.underlying31 (by kernel_rfl) (by kernel_rfl) rfl) ?_ ?_
              ·
                rintro v130 H21 hS21
                clear hS10
                refine AnyW.two 2 8 rfl rfl (by kernel_rfl) rfl rfl (dst_lt rfl) (dst_lt rfl) (s_append (sz := 2) (by_ := 24) (z := .agg #[.int .i64 0, S []]) hS21 at0 Try.underlying31 (by kernel_rfl) (by kernel_rfl) (by kernel_rfl) rfl (by kernel_rfl) rfl rfl (src_vec (hS21.vec (by first | exact at0 | exact at1 | exact at2 | exact at3 | exact at4)) (fun u hu => by obtain ⟨r, _, hr⟩ := List.mem_flatMap.1 hu; exact recC_one r u hr)) (by first | (with_reducible assumption) | omega | (unfold maxLen; omega) | (simp only [nums_length, List.length_set, List.length_replicate, List.length_take, List.length_drop, List.length_append, List.length_cons, List.length_nil, ofB_length, toB_length]; omega) | (simp only [nums_length, List.length_set, List.length_replicate, List.length_take, List.length_drop, List.length_append, List.length_cons, List.length_nil, ofB_length, toB_length]; unfold maxLen; omega) | (simp; done) | (simp; omega) | rfl | decide) (by first | (with_reducible assumption) | omega | (unfold maxLen; omega) | (simp only [nums_length, List.length_set, List.length_replicate, List.length_take, List.length_drop, List.length_append, List.length_cons, List.length_nil, ofB_length, toB_length]; omega) | (simp only [nums_length, List.length_set, List.length_replicate, List.length_take, List.length_drop, List.length_append, List.length_cons, List.length_nil, ofB_length, toB_length]; unfold maxLen; omega) | (simp; done) | (simp; omega) | rfl | decide)) (s_buildSlice2 (z := .agg #[.int .i64 0, S []]) hS21 Try.underlying31 (by kernel_rfl) (by kernel_rfl) rfl) ?_ ?_
                ·
                  rintro v132 H22 hS22
                  clear hS21
                  refine AnyW.only 8 rfl (by kernel_rfl) rfl (dst_lt rfl) (s_buildSlice2 (z := .agg #[.int .i64 0, S []]) hS22 Try.underlying31 (by kernel_rfl) (by kernel_rfl) rfl) ?_
                  rintro v138 H23 hS23
                  clear hS22
                  refine AnyW.only 9 rfl (by kernel_rfl) rfl (dst_lt rfl) (s_append (sz := 2) (by_ := 24) (z := .agg #[.int .i64 0, S []]) hS23 at1 Try.underlying31 (by kernel_rfl) (by kernel_rfl) (by kernel_rfl) rfl (by kernel_rfl) rfl rfl (src_vec (hS23.vec (by first | exact at0 | exact at1)) (fun u hu => recC_one ⟨st.la + 1, (o i).dat⟩ u hu)) (by first | (with_reducible assumption) | omega | (unfold maxLen; omega) | (simp only [nums_length, List.length_set, List.length_replicate, List.length_take, List.length_drop, List.length_append, List.length_cons, List.length_nil, ofB_length, toB_length]; omega) | (simp only [nums_length, List.length_set, List.length_replicate, List.length_take, List.length_drop, List.length_append, List.length_cons, List.length_nil, ofB_length, toB_length]; unfold maxLen; omega) | (simp; done) | (simp; omega) | rfl | decide) (by first | (with_reducible assumption) | omega | (unfold maxLen; omega) | (simp only [nums_length, List.length_set, List.length_replicate, List.length_take, List.length_drop, List.length_append, List.length_cons, List.length_nil, ofB_length, toB_length]; omega) | (simp only [nums_length, List.length_set, List.length_replicate, List.length_take, List.length_drop, List.length_append, List.length_cons, List.length_nil, ofB_length, toB_length]; unfold maxLen; omega) | (simp; done) | (simp; omega) | rfl | decide)) ?_
                  rintro v139 H24 hS24
                  clear hS23
                  replace hS24 := hS24.del del0
                  refine AnyW.onlyQ 10 rfl (by kernel_rfl) rfl (dst_lt rfl) (q_assign (v := v139) rfl) ?_
                  refine AnyW.done (by kernel_rfl) ?_
                  replace hS24 := hS24.del del1
                  exact CutP.go ⟨v139, _, trivial, Slots.eq ⟨(by first | rfl | exact i64_int (by omega) (by omega) (by omega) | assumption), (by first | rfl | exact i64_int (by omega) (by omega) (by omega) | assumption), (by first | rfl | exact i64_int (by omega) (by omega) (by omega) | assumption), (by first | rfl | exact i64_int (by omega) (by omega) (by omega) | assumption), (by first | rfl | exact i64_int (by omega) (by omega) (by omega) | assumption), (by first | rfl | exact i64_int (by omega) (by omega) (by omega) | assumption), (by first | rfl | exact i64_int (by omega) (by omega) (by omega) | assumption), (by first | rfl | exact i64_int (by omega) (by omega) (by omega) | assumption), (by first | rfl | exact i64_int (by omega) (by omega) (by omega) | assumption), (by first | rfl | exact i64_int (by omega) (by omega) (by omega) | assumption), (by first | rfl | exact i64_int (by omega) (by omega) (by omega) | assumption), (by first | rfl | exact i64_int (by omega) (by omega) (by omega) | assumption), (by first | rfl | exact i64_int (by omega) (by omega) (by omega) | assumption), (by first | rfl | exact i64_int (by omega) (by omega) (by omega) | assumption), (by first | rfl | exact i64_int (by omega) (by omega) (by omega) | assumption),  trivial⟩, (by rw [List.length_append, rowsV_append, rowsV_one]; simpa using hS24)⟩
                ·
                  rintro v138 H25 hS25
                  clear hS21
                  refine AnyW.only 2 rfl (by kernel_rfl) rfl (dst_lt rfl) (s_append (sz := 2) (by_ := 24) (z := .agg #[.int .i64 0, S []]) hS25 at1 Try.underlying31 (by kernel_rfl) (by kernel_rfl) (by kernel_rfl) rfl (by kernel_rfl) rfl rfl (src_vec (hS25.vec (by first | exact at0 | exact at1 | exact at2 | exact at3 | exact at4)) (fun u hu => by obtain ⟨r, _, hr⟩ := List.mem_flatMap.1 hu; exact recC_one r u hr)) (by first | (with_reducible assumption) | omega | (unfold maxLen; omega) | (simp only [nums_length, List.length_set, List.length_replicate, List.length_take, List.length_drop, List.length_append, List.length_cons, List.length_nil, ofB_length, toB_length]; omega) | (simp only [nums_length, List.length_set, List.length_replicate, List.length_take, List.length_drop, List.length_append, List.length_cons, List.length_nil, ofB_length, toB_length]; unfold maxLen; omega) | (simp; done) | (simp; omega) | rfl | decide) (by first | (with_reducible assumption) | omega | (unfold maxLen; omega) | (simp only [nums_length, List.length_set, List.length_replicate, List.length_take, List.length_drop, List.length_append, List.length_cons, List.length_nil, ofB_length, toB_length]; omega) | (simp only [nums_length, List.length_set, List.length_replicate, List.length_take, List.length_drop, List.length_append, List.length_cons, List.length_nil, ofB_length, toB_length]; unfold maxLen; omega) | (simp; done) | (simp; omega) | rfl | decide)) ?_
                  rintro v132 H26 hS26
                  clear hS25
                  refine AnyW.only 9 rfl (by kernel_rfl) rfl (dst_lt rfl) (s_append (sz := 2) (by_ := 24) (z := .agg #[.int .i64 0, S []]) hS26 at1 Try.underlying31 (by kernel_rfl) (by kernel_rfl) (by kernel_rfl) rfl (by kernel_rfl) rfl rfl (src_vec (hS26.vec (by first | exact at0 | exact at1)) (fun u hu => recC_one ⟨st.la + 1, (o i).dat⟩ u hu)) (by first | (with_reducible assumption) | omega | (unfold maxLen; omega) | (simp only [nums_length, List.length_set, List.length_replicate, List.length_take, List.length_drop, List.length_append, List.length_cons, List.length_nil, ofB_length, toB_length]; omega) | (simp only [nums_length, List.length_set, List.length_replicate, List.length_take, List.length_drop, List.length_append, List.length_cons, List.length_nil, ofB_length, toB_length]; unfold maxLen; omega) | (simp; done) | (simp; omega) | rfl | decide) (by first | (with_reducible assumption) | omega | (unfold maxLen; omega) | (simp only [nums_length, List.length_set, List.length_replicate, List.length_take, List.length_drop, List.length_append, List.length_cons, List.length_nil, ofB_length, toB_length]; omega) | (simp only [nums_length, List.length_set, List.length_replicate, List.length_take, List.length_drop, List.length_append, List.length_cons, List.length_nil, ofB_length, toB_length]; unfold maxLen; omega) | (simp; done) | (simp; omega) | rfl | decide)) ?_
                  rintro v139 H27 hS27
                  clear hS26
                  replace hS27 := hS27.del del0
                  refine AnyW.onlyQ 10 rfl (by kernel_rfl) rfl (dst_lt rfl) (q_assign (v := v139) rfl) ?_
                  refine AnyW.done (by kernel_rfl) ?_
                  replace hS27 := hS27.del del1
                  exact CutP.go ⟨v139, _, trivial, Slots.eq ⟨(by first | rfl | exact i64_int (by omega) (by omega) (by omega) | assumption), (by first | rfl | exact i64_int (by omega) (by omega) (by omega) | assumption), (by first | rfl | exact i64_int (by omega) (by omega) (by omega) | assumption), (by first | rfl | exact i64_int (by omega) (by omega) (by omega) | assumption), (by first | rfl | exact i64_int (by omega) (by omega) (by omega) | assumption), (by first | rfl | exact i64_int (by omega) (by omega) (by omega) | assumption), (by first | rfl | exact i64_int (by omega) (by omega) (by omega) | assumption), (by first | rfl | exact i64_int (by omega) (by omega) (by omega) | assumption), (by first | rfl | exact i64_int (by omega) (by omega) (by omega) | assumption), (by first | rfl | exact i64_int (by omega) (by omega) (by omega) | assumption), (by first | rfl | exact i64_int (by omega) (by omega) (by omega) | assumption), (by first | rfl | exact i64_int (by omega) (by omega) (by omega) | assumption), (by first | rfl | exact i64_int (by omega) (by omega) (by omega) | assumption), (by first | rfl | exact i64_int (by omega) (by omega) (by omega) | assumption), (by first | rfl | exact i64_int (by omega) (by omega) (by omega) | assumption),  trivial⟩, (by rw [List.length_append, rowsV_append, rowsV_one]; simpa using hS27)⟩
              ·
                rintro v138 H28 hS28
                clear hS10
                refine AnyW.only 0 rfl (by kernel_rfl) rfl (dst_lt rfl) (s_buildSlice0 hS28 Try.underlying31 (sz := 2) (by kernel_rfl)) ?_
                rintro v130 H29 hS29
                clear hS28
                refine AnyW.only 2 rfl (by kernel_rfl) rfl (dst_lt rfl) (s_append (sz := 2) (by_ := 24) (z := .agg #[.int .i64 0, S []]) hS29 at0 Try.underlying31 (by kernel_rfl) (by kernel_rfl) (by kernel_rfl) rfl (by kernel_rfl) rfl rfl (src_vec (hS29.vec (by first | exact at0 | exact at1 | exact at2 | exact at3 | exact at4)) (fun u hu => by obtain ⟨r, _, hr⟩ := List.mem_flatMap.1 hu; exact recC_one r u hr)) (by first | (with_reducible assumption) | omega | (unfold maxLen; omega) | (simp only [nums_length, List.length_set, List.length_replicate, List.length_take, List.length_drop, List.length_append, List.length_cons, List.length_nil, ofB_length, toB_length]; omega) | (simp only [nums_length, List.length_set, List.length_replicate, List.length_take, List.length_drop, List.length_append, List.length_cons, List.length_nil, ofB_length, toB_length]; unfold maxLen; omega) | (simp; done) | (simp; omega) | rfl | decide) (by first | (with_reducible assumption) | omega | (unfold maxLen; omega) | (simp only [nums_length, List.length_set, List.length_replicate, List.length_take, List.length_drop, List.length_append, List.length_cons, List.length_nil, ofB_length, toB_length]; omega) | (simp only [nums_length, List.length_set, List.length_replicate, List.length_take, List.length_drop, List.length_append, List.length_cons, List.length_nil, ofB_length, toB_length]; unfold maxLen; omega) | (simp; done) | (simp; omega) | rfl | decide)) ?_
                rintro v132 H30 hS30
                clear hS29
                refine AnyW.only 9 rfl (by kernel_rfl) rfl (dst_lt rfl) (s_append (sz := 2) (by_ := 24) (z := .agg #[.int .i64 0, S []]) hS30 at0 Try.underlying31 (by kernel_rfl) (by kernel_rfl) (by kernel_rfl) rfl (by kernel_rfl) rfl rfl (src_vec (hS30.vec (by first | exact at0 | exact at1)) (fun u hu => recC_one ⟨st.la + 1, (o i).dat⟩ u hu)) (by first | (with_reducible assumption) | omega | (unfold maxLen; omega) | (simp only [nums_length, List.length_set, List.length_replicate, List.length_take, List.length_drop, List.length_append, List.length_cons, List.length_nil, ofB_length, toB_length]; omega) | (simp only [nums_length, List.length_set, List.length_replicate, List.length_take, List.length_drop, List.length_append, List.length_cons, List.length_nil, ofB_length, toB_length]; unfold maxLen; omega) | (simp; done) | (simp; omega) | rfl | decide) (by first | (with_reducible assumption) | omega | (unfold maxLen; omega) | (simp only [nums_length, List.length_set, List.length_replicate, List.length_take, List.length_drop, List.length_append, List.length_cons, List.length_nil, ofB_length, toB_length]; omega) | (simp only [nums_length, List.length_set, List.length_replicate, List.length_take, List.length_drop, List.length_append, List.length_cons, List.length_nil, ofB_length, toB_length]; unfold maxLen; omega) | (simp; done) | (simp; omega) | rfl | decide)) ?_
                rintro v139 H31 hS31
                clear hS30
                replace hS31 := hS31.del del1
                refine AnyW.onlyQ 10 rfl (by kernel_rfl) rfl (dst_lt rfl) (q_assign (v := v139) rfl) ?_
                refine AnyW.done (by kernel_rfl) ?_
                replace hS31 := hS31.del del1
                exact CutP.go ⟨v139, _, trivial, Slots.eq ⟨(by first | rfl | exact i64_int (by omega) (by omega) (by omega) | assumption), (by first | rfl | exact i64_int (by omega) (by omega) (by omega) | assumption), (by first | rfl | exact i64_int (by omega) (by omega) (by omega) | assumption), (by first | rfl | exact i64_int (by omega) (by omega) (by omega) | assumption), (by first | rfl | exact i64_int (by omega) (by omega) (by omega) | assumption), (by first | rfl | exact i64_int (by omega) (by omega) (by omega) | assumption), (by first | rfl | exact i64_int (by omega) (by omega) (by omega) | assumption), (by first | rfl | exact i64_int (by omega) (by omega) (by omega) | assumption), (by first | rfl | exact i64_int (by omega) (by omega) (by omega) | assumption), (by first | rfl | exact i64_int (by omega) (by omega) (by omega) | assumption), (by first | rfl | exact i64_int (by omega) (by omega) (by omega) | assumption), (by first | rfl | exact i64_int (by omega) (by omega) (by omega) | assumption), (by first | rfl | exact i64_int (by omega) (by omega) (by omega) | assumption), (by first | rfl | exact i64_int (by omega) (by omega) (by omega) | assumption), (by first | rfl | exact i64_int (by omega) (by omega) (by omega) | assumption),  trivial⟩, (by rw [List.length_append, rowsV_append, rowsV_one]; simpa using hS31)⟩
          exfalso
          try simp only [eb56, eb124, decide_eq_true_eq, decide_eq_false_iff_not, Bool.or_eq_true, Bool.and_eq_true, Bool.or_eq_false_iff, Bool.and_eq_false_imp, Bool.not_eq_true', Bool.not_eq_false', ne_eq, Decidable.not_not, Int.not_lt, Int.not_le, Bool.not_eq_true, Bool.not_eq_false] at h8
          have h1d : (o i).dat ≠ [] := fun e => hpd (.inl e)
          have := List.length_pos_iff.2 h1d
          have : ¬ 8192 < (o i).dat.length := fun e => hpd (.inr e)
          omega
        rintro _ Hc32 ⟨nxv, _, _, rfl, hSc32⟩
        try clear hS10
        refine AW.seq ?_
        refine AW.region ?_
        refine OpsW.q rfl (q_move (v := .int _ _) rfl) ?_
        refine OpsW.q rfl (q_eql rfl rfl) ?_
        refine OpsW.nil ?_
        refine SeqP.go ?_
        refine AW.cond rfl (fun h9 => ?_) (fun h9 => ?_)
        ·
          exfalso
          try simp only [eb56, decide_eq_true_eq, decide_eq_false_iff_not, Bool.or_eq_true, Bool.and_eq_true, Bool.or_eq_false_iff, Bool.and_eq_false_imp, Bool.not_eq_true', Bool.not_eq_false', ne_eq, Decidable.not_not, Int.not_lt, Int.not_le, Bool.not_eq_true, Bool.not_eq_false] at h9
          simp at h9
        try simp only [eb56, decide_eq_true_eq, decide_eq_false_iff_not, Bool.or_eq_true, Bool.and_eq_true, Bool.or_eq_false_iff, Bool.and_eq_false_imp, Bool.not_eq_true', Bool.not_eq_false', ne_eq, Decidable.not_not, Int.not_lt, Int.not_le, Bool.not_eq_true, Bool.not_eq_false] at h9
        refine AW.seq ?_
        refine AW.region ?_
        refine OpsW.q rfl (q_move (v := .int _ _) rfl) ?_
        refine OpsW.q rfl (q_neq rfl rfl) ?_
        refine OpsW.qb rfl (q_move (v := .bool _) rfl) ?_
        intro b145 eb145
        refine OpsW.g rfl rfl rfl (fun hB => by simp only [Bool.and_eq_true, beq_iff_eq] at hB; obtain rfl := hB; exact (q_move (v := .int _ _) rfl)) ?_
        refine OpsW.g rfl rfl rfl (fun hB => by simp only [Bool.and_eq_true, beq_iff_eq] at hB; obtain rfl := hB; exact (q_neq rfl rfl)) ?_
        refine OpsW.gb rfl rfl rfl (fun hB => by simp only [Bool.and_eq_true, beq_iff_eq] at hB; obtain rfl := hB; exact (q_move (v := .bool _) rfl)) ?_
        intro b148 eb148
        refine OpsW.gg rfl rfl rfl (fun hB => by simp only [Bool.and_eq_true, beq_iff_eq] at hB; obtain ⟨rfl, rfl⟩ := hB; exact (q_move (v := .int _ _) rfl)) ?_
        refine OpsW.gg rfl rfl rfl (fun hB => by simp only [Bool.and_eq_true, beq_iff_eq] at hB; obtain ⟨rfl, rfl⟩ := hB; exact (q_lss rfl rfl)) ?_
        refine OpsW.g rfl rfl rfl (fun hB => by simp only [Bool.and_eq_true, beq_iff_eq] at hB; obtain rfl := hB; exact (q_or2 rfl rfl rfl)) ?_
        refine OpsW.q rfl (q_and2 rfl rfl rfl) ?_
        refine OpsW.nil ?_
        refine SeqP.go ?_
        refine AW.cond rfl (fun h10 => ?_) (fun h10 => ?_)
        ·
          exfalso
          try simp only [eb56, eb145, eb148, decide_eq_true_eq, decide_eq_false_iff_not, Bool.or_eq_true, Bool.and_eq_true, Bool.or_eq_false_iff, Bool.and_eq_false_imp, Bool.not_eq_true', Bool.not_eq_false', ne_eq, Decidable.not_not, Int.not_lt, Int.not_le, Bool.not_eq_true, Bool.not_eq_false] at h10
          simp_all <;> omega
        try simp only [eb56, eb145, eb148, decide_eq_true_eq, decide_eq_false_iff_not, Bool.or_eq_true, Bool.and_eq_true, Bool.or_eq_false_iff, Bool.and_eq_false_imp, Bool.not_eq_true', Bool.not_eq_false', ne_eq, Decidable.not_not, Int.not_lt, Int.not_le, Bool.not_eq_true, Bool.not_eq_false] at h10
        refine AW.skip ?_
        obtain ⟨HN, hleN, hvN, hSN⟩ := (Sep.bring del1 hSc32).freeze
        obtain ⟨HX, hleX, hvX, hSX⟩ := (Sep.bring del0 hSN).freeze
        exact CutP.go ⟨HX, nv, nxv, st.l, _, m, _, _, _, ⟨Hp.le_trans hleN hleX, Vec.le hvN hleX, hvX, hpsit, hll, by rw [List.length_append]; simp; omega⟩, Slots.eq ⟨(by first | rfl | exact i64_int (by omega) (by omega) (by omega) | assumption), (by first | rfl | exact i64_int (by omega) (by omega) (by omega) | assumption), (by first | rfl | exact i64_int (by omega) (by omega) (by omega) | assumption), (by first | rfl | exact i64_int (by omega) (by omega) (by omega) | assumption), (by first | rfl | exact i64_int (by omega) (by omega) (by omega) | assumption), (by first | rfl | exact i64_int (by omega) (by omega) (by omega) | assumption), (by first | rfl | exact i64_int (by omega) (by omega) (by omega) | assumption), (by first | rfl | exact i64_int (by omega) (by omega) (by omega) | assumption), (by first | rfl | exact i64_int (by omega) (by omega) (by omega) | assumption), (by first | rfl | exact i64_int (by omega) (by omega) (by omega) | assumption), (by first | rfl | exact i64_int (by omega) (by omega) (by omega) | assumption), (by first | rfl | exact i64_int (by omega) (by omega) (by omega) | assumption), (by first | rfl | exact i64_int (by omega) (by omega) (by omega) | assumption),  trivial⟩, hSX⟩
      ·
        refine AW.region ?_
        refine OpsW.q rfl (q_move (v := .pointer _) rfl) ?_
        refine OpsW.q rfl (q_fieldAddr (sz := 0) Try.underlying40 rfl (by kernel_rfl) rfl) ?_
        refine OpsW.q rfl (q_load (v := S _) (by kernel_rfl) rfl (hS8.blk at0) rfl) ?_
        obtain ⟨Hf33, le33, hA33, hB33⟩ := hS8.framed at3
        refine OpsW.m rfl (o_call rfl Try.func7 rfl rfl (Put_e hA33 hL.ok htkA (by omega) hpe)) ?_
        rintro _ H33 ⟨rfl, hR33⟩
        have hS33 := hB33 _ _ hR33
        clear hR33 hB33 hA33
        clear hS8
        refine OpsW.q rfl (q_move (v := .tuple _) rfl) ?_
        refine OpsW.q rfl (q_extract (v := .int _ _) rfl rfl) ?_
        refine OpsW.q rfl (q_extract (v := .int _ _) rfl rfl) ?_
        refine OpsW.q rfl (q_assign (v := .int _ _) rfl) ?_
        refine OpsW.q rfl (q_assign (v := .int _ _) rfl) ?_
        refine OpsW.nil ?_
        refine SeqP.go ?_
        refine AW.seq ?_
        refine AW.seq ?_
        refine AW.region ?_
        refine OpsW.q rfl (q_move (v := .int _ _) rfl) ?_
        refine OpsW.q rfl (q_eql rfl rfl) ?_
        refine OpsW.nil ?_
        refine SeqP.go ?_
        refine AW.cond rfl (fun h6 => ?_) (fun h6 => ?_)
        ·
          try simp only [eb56, decide_eq_true_eq, decide_eq_false_iff_not, Bool.or_eq_true, Bool.and_eq_true, Bool.or_eq_false_iff, Bool.and_eq_false_imp, Bool.not_eq_true', Bool.not_eq_false', ne_eq, Decidable.not_not, Int.not_lt, Int.not_le, Bool.not_eq_true, Bool.not_eq_false] at h6
          refine AW.seq ?_
          refine AW.seq ?_
          refine AW.region ?_
          refine OpsW.q rfl (q_move (v := .int _ _) rfl) ?_
          refine OpsW.q rfl (q_move (v := .int _ _) rfl) ?_
          refine OpsW.q rfl (q_addI rfl rfl (by omega)) ?_
          refine OpsW.q rfl (q_neq rfl rfl) ?_
          refine OpsW.nil ?_
          refine SeqP.go ?_
          refine AW.cond rfl (fun h7 => ?_) (fun h7 => ?_)
          ·
            exfalso
            try simp only [eb56, decide_eq_true_eq, decide_eq_false_iff_not, Bool.or_eq_true, Bool.and_eq_true, Bool.or_eq_false_iff, Bool.and_eq_false_imp, Bool.not_eq_true', Bool.not_eq_false', ne_eq, Decidable.not_not, Int.not_lt, Int.not_le, Bool.not_eq_true, Bool.not_eq_false] at h7
            simp at h7
          try simp only [eb56, decide_eq_true_eq, decide_eq_false_iff_not, Bool.or_eq_true, Bool.and_eq_true, Bool.or_eq_false_iff, Bool.and_eq_false_imp, Bool.not_eq_true', Bool.not_eq_false', ne_eq, Decidable.not_not, Int.not_lt, Int.not_le, Bool.not_eq_true, Bool.not_eq_false] at h7
          refine AW.skip ?_
          refine SeqP.go ?_
          refine AW.region ?_
          refine OpsW.q rfl (q_move (v := .map _) rfl) ?_
          refine OpsW.q rfl (q_move (v := .int _ _) rfl) ?_
          refine OpsW.q rfl (q_fieldAddr (sz := 0) Try.underlying40 rfl (by kernel_rfl) rfl) ?_
          refine OpsW.q rfl (q_load (v := S _) (by kernel_rfl) rfl (hS33.blk at0) rfl) ?_
          refine OpsW.ms (s_mapUpdate (u := S _) hS33 at2 Try.underlying43 (key_i64 Try.underlying3) rfl rfl rfl) ?_
          rintro _ H34 ⟨rfl, hS34⟩
          clear hS33
          refine OpsW.nil ?_
          refine SeqP.go ?_
          refine AW.cut (fun e_ H_ => ∃ (nxv : Value) (e0 : Env), (True) ∧ e_ = upds e0 [(0, .slice rops m0 c0), (1, vc), (2, vk), (7, .pointer (some ⟨b33, 0, none⟩)), (9, .pointer (some ⟨bs, 0, none⟩)), (11, nv), (12, .map (some b51)), (13, .int .i64 (i : Int)), (14, .pointer (some ⟨b14, 0, none⟩)), (15, .int .i64 cut), (16, .int .i64 keep), (17, .int .i64 st.ak), (18, .int .i64 st.la), (19, nxv), (21, .int .i64 0)] ∧ Sep H [.vec nxv 46 2 ((st.l ++ ([⟨st.la + 1, (o i).dat⟩] : RecL)).length) (rowsV recC (st.l ++ ([⟨st.la + 1, (o i).dat⟩] : RecL))), .vec nv 46 2 st.l.length (rowsV recC st.l), .blk b51 (mpB (ents ((Value.int .i64)) ((mst m (st.la + 1) (S (o i).dat))))), spC bs b33 x2 t2] H_) ?_ ?_
          ·
            refine AW.seq ?_
            refine AW.region ?_
            refine OpsW.q rfl (q_fieldAddr (sz := 0) Try.underlying40 rfl (by kernel_rfl) rfl) ?_
            refine OpsW.q rfl (q_load (v := S _) (by kernel_rfl) rfl (hS34.blk at0) rfl) ?_
            refine OpsW.q rfl (q_lenS Try.underlying9 rfl) ?_
            refine OpsW.q rfl (q_geq rfl rfl) ?_
            refine OpsW.qb rfl (q_move (v := .bool _) rfl) ?_
            intro b124 eb124
            refine OpsW.g rfl rfl rfl (fun hB => by simp only [Bool.and_eq_true, beq_iff_eq] at hB; obtain rfl := hB; exact (q_fieldAddr (sz := 0) Try.underlying40 rfl (by kernel_rfl) rfl)) ?_
            refine OpsW.g rfl rfl rfl (fun hB => by simp only [Bool.and_eq_true, beq_iff_eq] at hB; obtain rfl := hB; exact (q_load (v := S _) (by kernel_rfl) rfl (hS34.blk at0) rfl)) ?_
            refine OpsW.g rfl rfl rfl (fun hB => by simp only [Bool.and_eq_true, beq_iff_eq] at hB; obtain rfl := hB; exact (q_lenS Try.underlying9 rfl)) ?_
            refine OpsW.g rfl rfl rfl (fun hB => by simp only [Bool.and_eq_true, beq_iff_eq] at hB; obtain rfl := hB; exact (q_leq rfl rfl)) ?_
            refine OpsW.q rfl (q_and2 rfl rfl rfl) ?_
            refine OpsW.nil ?_
            refine SeqP.go ?_
            refine AW.cond rfl (fun h8 => ?_) (fun h8 => ?_)
            ·
              try simp only [eb56, eb124, decide_eq_true_eq, decide_eq_false_iff_not, Bool.or_eq_true, Bool.and_eq_true, Bool.or_eq_false_iff, Bool.and_eq_false_imp, Bool.not_eq_true', Bool.not_eq_false', ne_eq, Decidable.not_not, Int.not_lt, Int.not_le, Bool.not_eq_true, Bool.not_eq_false] at h8
              refine AW.steps rfl 11 rfl ?_
              refine AnyW.first 1 rfl (by kernel_rfl) (by kernel_rfl) (by kernel_rfl) rfl (dst_lt rfl) (v_move (v := nv) rfl) ?_
              refine AnyW.first 3 rfl (by kernel_rfl) (by kernel_rfl) (by kernel_rfl) rfl (dst_lt rfl) (v_move (v := .int _ _) rfl) ?_
              refine AnyW.first 4 rfl (by kernel_rfl) (by kernel_rfl) (by kernel_rfl) rfl (dst_lt rfl) (v_addI rfl rfl (by omega)) ?_
              refine AnyW.first 5 rfl (by kernel_rfl) (by kernel_rfl) (by kernel_rfl) rfl (dst_lt rfl) (v_fieldAddr (sz := 0) Try.underlying40 rfl (by kernel_rfl) rfl) ?_
              refine AnyW.two 0 6 rfl rfl (by kernel_rfl) rfl rfl (dst_lt rfl) (dst_lt rfl) (s_buildSlice0 hS34 Try.underlying31 (sz := 2) (by kernel_rfl)) (q_load (v := S _) (by kernel_rfl) rfl (hS34.blk at0) rfl) ?_ ?_
              ·
                rintro v130 H35 hS35
                clear hS34
                refine AnyW.two 2 6 rfl rfl (by kernel_rfl) rfl rfl (dst_lt rfl) (dst_lt rfl) (s_append (sz := 2) (by_ := 24) (z := .agg #[.int .i64 0, S []]) hS35 at0 Try.underlying31 (by kernel_rfl) (by kernel_rfl) (by kernel_rfl) rfl (by kernel_rfl) rfl rfl (src_vec (hS35.vec (by first | exact at0 | exact at1 | exact at2 | exact at3 | exact at4)) (fun u hu => by obtain ⟨r, _, hr⟩ := List.mem_flatMap.1 hu; exact recC_one r u hr)) (by first | (with_reducible assumption) | omega | (unfold maxLen; omega) | (simp only [nums_length, List.length_set, List.length_replicate, List.length_take, List.length_drop, List.length_append, List.length_cons, List.length_nil, ofB_length, toB_length]; omega) | (simp only [nums_length, List.length_set, List.length_replicate, List.length_take, List.length_drop, List.length_append, List.length_cons, List.length_nil, ofB_length, toB_length]; unfold maxLen; omega) | (simp; done) | (simp; omega) | rfl | decide) (by first | (with_reducible assumption) | omega | (unfold maxLen; omega) | (simp only [nums_length, List.length_set, List.length_replicate, List.length_take, List.length_drop, List.length_append, List.length_cons, List.length_nil, ofB_length, toB_length]; omega) | (simp only [nums_length, List.length_set, List.length_replicate, List.length_take, List.length_drop, List.length_append, List.length_cons, List.length_nil, ofB_length, toB_length]; unfold maxLen; omega) | (simp; done) | (simp; omega) | rfl | decide)) (q_load (v := S _) (by kernel_rfl) rfl (hS35.blk at1) rfl) ?_ ?_
                ·
                  rintro v132 H36 hS36
                  clear hS35
                  refine AnyW.onlyQ 6 rfl (by kernel_rfl) rfl (dst_lt rfl) (q_load (v := S _) (by kernel_rfl) rfl (hS36.blk at1) rfl) ?_
                  refine AnyW.onlyQ 7 rfl (by kernel_rfl) rfl (dst_lt rfl) (q_build (cells := #[.int .i64 (st.la + 1), S (o i).dat]) rfl (by kernel_rfl)) ?_
                  refine AnyW.only 8 rfl (by kernel_rfl) rfl (dst_lt rfl) (s_buildSlice2 (z := .agg #[.int .i64 0, S []]) hS36 Try.underlying31 (by kernel_rfl) (by kernel_rfl) rfl) ?_
                  rintro v138 H37 hS37
                  clear hS36
                  refine AnyW.only 9 rfl (by kernel_rfl) rfl (dst_lt rfl) (s_append (sz := 2) (by_ := 24) (z := .agg #[.int .i64 0, S []]) hS37 at1 Try.underlying31 (by kernel_rfl) (by kernel_rfl) (by kernel_rfl) rfl (by kernel_rfl) rfl rfl (src_vec (hS37.vec (by first | exact at0 | exact at1)) (fun u hu => recC_one ⟨st.la + 1, (o i).dat⟩ u hu)) (by first | (with_reducible assumption) | omega | (unfold maxLen; omega) | (simp only [nums_length, List.length_set, List.length_replicate, List.length_take, List.length_drop, List.length_append, List.length_cons, List.length_nil, ofB_length, toB_length]; omega) | (simp only [nums_length, List.length_set, List.length_replicate, List.length_take, List.length_drop, List.length_append, List.length_cons, List.length_nil, ofB_length, toB_length]; unfold maxLen; omega) | (simp; done) | (simp; omega) | rfl | decide) (by first | (with_reducible assumption) | omega | (unfold maxLen; omega) | (simp only [nums_length, List.length_set, List.length_replicate, List.length_take, List.length_drop, List.length_append, List.length_cons, List.length_nil, ofB_length, toB_length]; omega) | (simp only [nums_length, List.length_set, List.length_replicate, List.length_take, List.length_drop, List.length_append, List.length_cons, List.length_nil, ofB_length, toB_length]; unfold maxLen; omega) | (simp; done) | (simp; omega) | rfl | decide)) ?_
                  rintro v139 H38 hS38
                  clear hS37
                  replace hS38 := hS38.del del0
                  refine AnyW.onlyQ 10 rfl (by kernel_rfl) rfl (dst_lt rfl) (q_assign (v := v139) rfl) ?_
                  refine AnyW.done (by kernel_rfl) ?_
                  replace hS38 := hS38.del del1
                  exact CutP.go ⟨v139, _, trivial, Slots.eq ⟨(by first | rfl | exact i64_int (by omega) (by omega) (by omega) | assumption), (by first | rfl | exact i64_int (by omega) (by omega) (by omega) | assumption), (by first | rfl | exact i64_int (by omega) (by omega) (by omega) | assumption), (by first | rfl | exact i64_int (by omega) (by omega) (by omega) | assumption), (by first | rfl | exact i64_int (by omega) (by omega) (by omega) | assumption), (by first | rfl | exact i64_int (by omega) (by omega) (by omega) | assumption), (by first | rfl | exact i64_int (by omega) (by omega) (by omega) | assumption), (by first | rfl | exact i64_int (by omega) (by omega) (by omega) | assumption), (by first | rfl | exact i64_int (by omega) (by omega) (by omega) | assumption), (by first | rfl | exact i64_int (by omega) (by omega) (by omega) | assumption), (by first | rfl | exact i64_int (by omega) (by omega) (by omega) | assumption), (by first | rfl | exact i64_int (by omega) (by omega) (by omega) | assumption), (by first | rfl | exact i64_int (by omega) (by omega) (by omega) | assumption), (by first | rfl | exact i64_int (by omega) (by omega) (by omega) | assumption), (by first | rfl | exact i64_int (by omega) (by omega) (by omega) | assumption),  trivial⟩, (by rw [List.length_append, rowsV_append, rowsV_one]; simpa using hS38)⟩
                ·
                  rintro _ _ ⟨rfl, rfl⟩
                  refine AnyW.first 7 rfl (by kernel_rfl) (by kernel_rfl) (by kernel_rfl) rfl (dst_lt rfl) (v_build (cells := #[.int .i64 (st.la + 1), S (o i).dat]) rfl (by kernel_rfl)) ?_
                  refine AnyW.two 2 8 rfl rfl (by kernel_rfl) rfl rfl (dst_lt rfl) (dst_lt rfl) (s_append (sz := 2) (by_ := 24) (z := .agg #[.int .i64 0, S []]) hS35 at0 Try.underlying31 (by kernel_rfl) (by kernel_rfl) (by kernel_rfl) rfl (by kernel_rfl) rfl rfl (src_vec (hS35.vec (by first | exact at0 | exact at1 | exact at2 | exact at3 | exact at4)) (fun u hu => by obtain ⟨r, _, hr⟩ := List.mem_flatMap.1 hu; exact recC_one r u hr)) (by first | (with_reducible assumption) | omega | (unfold maxLen; omega) | (simp only [nums_length, List.length_set, List.length_replicate, List.length_take, List.length_drop, List.length_append, List.length_cons, List.length_nil, ofB_length, toB_length]; omega) | (simp only [nums_length, List.length_set, List.length_replicate, List.length_take, List.length_drop, List.length_append, List.length_cons, List.length_nil, ofB_length, toB_length]; unfold maxLen; omega) | (simp; done) | (simp; omega) | rfl | decide) (by first | (with_reducible assumption) | omega | (unfold maxLen; omega) | (simp only [nums_length, List.length_set, List.length_replicate, List.length_take, List.length_drop, List.length_append, List.length_cons, List.length_nil, ofB_length, toB_length]; omega) | (simp only [nums_length, List.length_set, List.length_replicate, List.length_take, List.length_drop, List.length_append, List.length_cons, List.length_nil, ofB_length, toB_length]; unfold maxLen; omega) | (simp; done) | (simp; omega) | rfl | decide)) (s_buildSlice2 (z := .agg #[.int .i64 0, S []]) hS35 Try.underlying31 (by kernel_rfl) (by kernel_rfl) rfl) ?_ ?_
                  ·
                    rintro v132 H39 hS39
                    clear hS35
                    refine AnyW.only 8 rfl (by kernel_rfl) rfl (dst_lt rfl) (s_buildSlice2 (z := .agg #[.int .i64 0, S []]) hS39 Try.underlying31 (by kernel_rfl) (by kernel_rfl) rfl) ?_
                    rintro v138 H40 hS40
                    clear hS39
                    refine AnyW.only 9 rfl (by kernel_rfl) rfl (dst_lt rfl) (s_append (sz := 2) (by_ := 24) (z := .agg #[.int .i64 0, S []]) hS40 at1 Try.underlying31 (by kernel_rfl) (by kernel_rfl) (by kernel_rfl) rfl (by kernel_rfl) rfl rfl (src_vec (hS40.vec (by first | exact at0 | exact at1)) (fun u hu => recC_one ⟨st.la + 1, (o i).dat⟩ u hu)) (by first | (with_reducible assumption) | omega | (unfold maxLen; omega) | (simp only [nums_length, List.length_set, List.length_replicate, List.length_take, List.length_drop, List.length_append, List.length_cons, List.length_nil, ofB_length, toB_length]; omega) | (simp only [nums_length, List.length_set, List.length_replicate, List.length_take, List.length_drop, List.length_append, List.length_cons, List.length_nil, ofB_length, toB_length]; unfold maxLen; omega) | (simp; done) | (simp; omega) | rfl | decide) (by first | (with_reducible assumption) | omega | (unfold maxLen; omega) | (simp only [nums_length, List.length_set, List.length_replicate, List.length_take, List.length_drop, List.length_append, List.length_cons, List.length_nil, ofB_length, toB_length]; omega) | (simp only [nums_length, List.length_set, List.length_replicate, List.length_take, List.length_drop, List.length_append, List.length_cons, List.length_nil, ofB_length, toB_length]; unfold maxLen; omega) | (simp; done) | (simp; omega) | rfl | decide)) ?_
                    rintro v139 H41 hS41
                    clear hS40
                    replace hS41 := hS41.del del0
                    refine AnyW.onlyQ 10 rfl (by kernel_rfl) rfl (dst_lt rfl) (q_assign (v := v139) rfl) ?_
                    refine AnyW.done (by kernel_rfl) ?_
                    replace hS41 := hS41.del del1
                    exact CutP.go ⟨v139, _, trivial, Slots.eq ⟨(by first | rfl | exact i64_int (by omega) (by omega) (by omega) | assumption), (by first | rfl | exact i64_int (by omega) (by omega) (by omega) | assumption), (by first | rfl | exact i64_int (by omega) (by omega) (by omega) | assumption), (by first | rfl | exact i64_int (by omega) (by omega) (by omega) | assumption), (by first | rfl | exact i64_int (by omega) (by omega) (by omega) | assumption), (by first | rfl | exact i64_int (by omega) (by omega) (by omega) | assumption), (by first | rfl | exact i64_int (by omega) (by omega) (by omega) | assumption), (by first | rfl | exact i64_int (by omega) (by omega) (by omega) | assumption), (by first | rfl | exact i64_int (by omega) (by omega) (by omega) | assumption), (by first | rfl | exact i64_int (by omega) (by omega) (by omega) | assumption), (by first | rfl | exact i64_int (by omega) (by omega) (by omega) | assumption), (by first | rfl | exact i64_int (by omega) (by omega) (by omega) | assumption), (by first | rfl | exact i64_int (by omega) (by omega) (by omega) | assumption), (by first | rfl | exact i64_int (by omega) (by omega) (by omega) | assumption), (by first | rfl | exact i64_int (by omega) (by omega) (by omega) | assumption),  trivial⟩, (by rw [List.length_append, rowsV_append, rowsV_one]; simpa using hS41)⟩
                  ·
                    rintro v138 H42 hS42
                    clear hS35
                    refine AnyW.only 2 rfl (by kernel_rfl) rfl (dst_lt rfl) (s_append (sz := 2) (by_ := 24) (z := .agg #[.int .i64 0, S []]) hS42 at1 Try.underlying31 (by kernel_rfl) (by kernel_rfl) (by kernel_rfl) rfl (by kernel_rfl) rfl rfl (src_vec (hS42.vec (by first | exact at0 | exact at1 | exact at2 | exact at3 | exact at4)) (fun u hu => by obtain ⟨r, _, hr⟩ := List.mem_flatMap.1 hu; exact recC_one r u hr)) (by first | (with_reducible assumption) | omega | (unfold maxLen; omega) | (simp only [nums_length, List.length_set, List.length_replicate, List.length_take, List.length_drop, List.length_append, List.length_cons, List.length_nil, ofB_length, toB_length]; omega) | (simp only [nums_length, List.length_set, List.length_replicate, List.length_take, List.length_drop, List.length_append, List.length_cons, List.length_nil, ofB_length, toB_length]; unfold maxLen; omega) | (simp; done) | (simp; omega) | rfl | decide) (by first | (with_reducible assumption) | omega | (unfold maxLen; omega) | (simp only [nums_length, List.length_set, List.length_replicate, List.length_take, List.length_drop, List.length_append, List.length_cons, List.length_nil, ofB_length, toB_length]; omega) | (simp only [nums_length, List.length_set, List.length_replicate, List.length_take, List.length_drop, List.length_append, List.length_cons, List.length_nil, ofB_length, toB_length]; unfold maxLen; omega) | (simp; done) | (simp; omega) | rfl | decide)) ?_
                    rintro v132 H43 hS43
                    clear hS42
                    refine AnyW.only 9 rfl (by kernel_rfl) rfl (dst_lt rfl) (s_append (sz := 2) (by_ := 24) (z := .agg #[.int .i64 0, S []]) hS43 at1 Try.underlying31 (by kernel_rfl) (by kernel_rfl) (by kernel_rfl) rfl (by kernel_rfl) rfl rfl (src_vec (hS43.vec (by first | exact at0 | exact at1)) (fun u hu => recC_one ⟨st.la + 1, (o i).dat⟩ u hu)) (by first | (with_reducible assumption) | omega | (unfold maxLen; omega) | (simp only [nums_length, List.length_set, List.length_replicate, List.length_take, List.length_drop, List.length_append, List.length_cons, List.length_nil, ofB_length, toB_length]; omega) | (simp only [nums_length, List.length_set, List.length_replicate, List.length_take, List.length_drop, List.length_append, List.length_cons, List.length_nil, ofB_length, toB_length]; unfold maxLen; omega) | (simp; done) | (simp; omega) | rfl | decide) (by first | (with_reducible assumption) | omega | (unfold maxLen; omega) | (simp only [nums_length, List.length_set, List.length_replicate, List.length_take, List.length_drop, List.length_append, List.length_cons, List.length_nil, ofB_length, toB_length]; omega) | (simp only [nums_length, List.length_set, List.length_replicate, List.length_take, List.length_drop, List.length_append, List.length_cons, List.length_nil, ofB_length, toB_length]; unfold maxLen; omega) | (simp; done) | (simp; omega) | rfl | decide)) ?_
                    rintro v139 H44 hS44
                    clear hS43
                    replace hS44 := hS44.del del0
                    refine AnyW.onlyQ 10 rfl (by kernel_rfl) rfl (dst_lt rfl) (q_assign (v := v139) rfl) ?_
                    refine AnyW.done (by kernel_rfl) ?_
                    replace hS44 := hS44.del del1
                    exact CutP.go ⟨v139, _, trivial, Slots.eq ⟨(by first | rfl | exact i64_int (by omega) (by omega) (by omega) | assumption), (by first | rfl | exact i64_int (by omega) (by omega) (by omega) | assumption), (by first | rfl | exact i64_int (by omega) (by omega) (by omega) | assumption), (by first | rfl | exact i64_int (by omega) (by omega) (by omega) | assumption), (by first | rfl | exact i64_int (by omega) (by omega) (by omega) | assumption), (by first | rfl | exact i64_int (by omega) (by omega) (by omega) | assumption), (by first | rfl | exact i64_int (by omega) (by omega) (by omega) | assumption), (by first | rfl | exact i64_int (by omega) (by omega) (by omega) | assumption), (by first | rfl | exact i64_int (by omega) (by omega) (by omega) | assumption), (by first | rfl | exact i64_int (by omega) (by omega) (by omega) | assumption), (by first | rfl | exact i64_int (by omega) (by omega) (by omega) | assumption), (by first | rfl | exact i64_int (by omega) (by omega) (by omega) | assumption), (by first | rfl | exact i64_int (by omega) (by omega) (by omega) | assumption), (by first | rfl | exact i64_int (by omega) (by omega) (by omega) | assumption), (by first | rfl | exact i64_int (by omega) (by omega) (by omega) | assumption),  trivial⟩, (by rw [List.length_append, rowsV_append, rowsV_one]; simpa using hS44)⟩
              ·
                rintro _ _ ⟨rfl, rfl⟩
                refine AnyW.first 7 rfl (by kernel_rfl) (by kernel_rfl) (by kernel_rfl) rfl (dst_lt rfl) (v_build (cells := #[.int .i64 (st.la + 1), S (o i).dat]) rfl (by kernel_rfl)) ?_
                refine AnyW.two 0 8 rfl rfl (by kernel_rfl) rfl rfl (dst_lt rfl) (dst_lt rfl) (s_buildSlice0 hS34 Try.underlying31 (sz := 2) (by kernel_rfl)) (s_buildSlice2 (z := .agg #[.int .i64 0, S []]) hS34 Try.underlying31 (by kernel_rfl) (by kernel_rfl) rfl) ?_ ?_
                ·
                  rintro v130 H45 hS45
                  clear hS34
                  refine AnyW.two 2 8 rfl rfl (by kernel_rfl) rfl rfl (dst_lt rfl) (dst_lt rfl) (s_append (sz := 2) (by_ := 24) (z := .agg #[.int .i64 0, S []]) hS45 at0 Try.underlying31 (by kernel_rfl) (by kernel_rfl) (by kernel_rfl) rfl (by kernel_rfl) rfl rfl (src_vec (hS45.vec (by first | exact at0 | exact at1 | exact at2 | exact at3 | exact at4)) (fun u hu => by obtain ⟨r, _, hr⟩ := List.mem_flatMap.1 hu; exact recC_one r u hr)) (by first | (with_reducible assumption) | omega | (unfold maxLen; omega) | (simp only [nums_length, List.length_set, List.length_replicate, List.length_take, List.length_drop, List.length_append, List.length_cons, List.length_nil, ofB_length, toB_length]; omega) | (simp only [nums_length, List.length_set, List.length_replicate, List.length_take, List.length_drop, List.length_append, List.length_cons, List.length_nil, ofB_length, toB_length]; unfold maxLen; omega) | (simp; done) | (simp; omega) | rfl | decide) (by first | (with_reducible assumption) | omega | (unfold maxLen; omega) | (simp only [nums_length, List.length_set, List.length_replicate, List.length_take, List.length_drop, List.length_append, List.length_cons, List.length_nil, ofB_length, toB_length]; omega) | (simp only [nums_length, List.length_set, List.length_replicate, List.length_take, List.length_drop, List.length_append, List.length_cons, List.length_nil, ofB_length, toB_length]; unfold maxLen; omega) | (simp; done) | (simp; omega) | rfl | decide)) (s_buildSlice2 (z := .agg #[.int .i64 0, S []]) hS45 Try.underlying31 (by kernel_rfl) (by kernel_rfl) rfl) ?_ ?_
                  ·
                    rintro v132 H46 hS46
                    clear hS45
                    refine AnyW.only 8 rfl (by kernel_rfl) rfl (dst_lt rfl) (s_buildSlice2 (z := .agg #[.int .i64 0, S []]) hS46 Try.underlying31 (by kernel_rfl) (by kernel_rfl) rfl) ?_
                    rintro v138 H47 hS47
                    clear hS46
                    refine AnyW.only 9 rfl (by kernel_rfl) rfl (dst_lt rfl) (s_append (sz := 2) (by_ := 24) (z := .agg #[.int .i64 0, S []]) hS47 at1 Try.underlying31 (by kernel_rfl) (by kernel_rfl) (by kernel_rfl) rfl (by kernel_rfl) rfl rfl (src_vec (hS47.vec (by first | exact at0 | exact at1)) (fun u hu => recC_one ⟨st.la + 1, (o i).dat⟩ u hu)) (by first | (with_reducible assumption) | omega | (unfold maxLen; omega) | (simp only [nums_length, List.length_set, List.length_replicate, List.length_take, List.length_drop, List.length_append, List.length_cons, List.length_nil, ofB_length, toB_length]; omega) | (simp only [nums_length, List.length_set, List.length_replicate, List.length_take, List.length_drop, List.length_append, List.length_cons, List.length_nil, ofB_length, toB_length]; unfold maxLen; omega) | (simp; done) | (simp; omega) | rfl | decide) (by first | (with_reducible assumption) | omega | (unfold maxLen; omega) | (simp only [nums_length, List.length_set, List.length_replicate, List.length_take, List.length_drop, List.length_append, List.length_cons, List.length_nil, ofB_length, toB_length]; omega) | (simp only [nums_length, List.length_set, List.length_replicate, List.length_take, List.length_drop, List.length_append, List.length_cons, List.length_nil, ofB_length, toB_length]; unfold maxLen; omega) | (simp; done) | (simp; omega) | rfl | decide)) ?_
                    rintro v139 H48 hS48
                    clear hS47
                    replace hS48 := hS48.del del0
                    refine AnyW.onlyQ 10 rfl (by kernel_rfl) rfl (dst_lt rfl) (q_assign (v := v139) rfl) ?_
                    refine AnyW.done (by kernel_rfl) ?_
                    replace hS48 := hS48.del del1
                    exact CutP.go ⟨v139, _, trivial, Slots.eq ⟨(by first | rfl | exact i64_int (by omega) (by omega) (by omega) | assumption), (by first | rfl | exact i64_int (by omega) (by omega) (by omega) | assumption), (by first | rfl | exact i64_int (by omega) (by omega) (by omega) | assumption), (by first | rfl | exact i64_int (by omega) (by omega) (by omega) | assumption), (by first | rfl | exact i64_int (by omega) (by omega) (by omega) | assumption), (by first | rfl | exact i64_int (by omega) (by omega) (by omega) | assumption), (by first | rfl | exact i64_int (by omega) (by omega) (by omega) | assumption), (by first | rfl | exact i64_int (by omega) (by omega) (by omega) | assumption), (by first | rfl | exact i64_int (by omega) (by omega) (by omega) | assumption), (by first | rfl | exact i64_int (by omega) (by omega) (by omega) | assumption), (by first | rfl | exact i64_int (by omega) (by omega) (by omega) | assumption), (by first | rfl | exact i64_int (by omega) (by omega) (by omega) | assumption), (by first | rfl | exact i64_int (by omega) (by omega) (by omega) | assumption), (by first | rfl | exact i64_int (by omega) (by omega) (by omega) | assumption), (by first | rfl | exact i64_int (by omega) (by omega) (by omega) | assumption),  trivial⟩, (by rw [List.length_append, rowsV_append, rowsV_one]; simpa using hS48)⟩
                  ·
                    rintro v138 H49 hS49
                    clear hS45
                    refine AnyW.only 2 rfl (by kernel_rfl) rfl (dst_lt rfl) (s_append (sz := 2) (by_ := 24) (z := .agg #[.int .i64 0, S []]) hS49 at1 Try.underlying31 (by kernel_rfl) (by kernel_rfl) (by kernel_rfl) rfl (by kernel_rfl) rfl rfl (src_vec (hS49.vec (by first | exact at0 | exact at1 | exact at2 | exact at3 | exact at4)) (fun u hu => by obtain ⟨r, _, hr⟩ := List.mem_flatMap.1 hu; exact recC_one r u hr)) (by first | (with_reducible assumption) | omega | (unfold maxLen; omega) | (simp only [nums_length, List.length_set, List.length_replicate, List.length_take, List.length_drop, List.length_append, List.length_cons, List.length_nil, ofB_length, toB_length]; omega) | (simp only [nums_length, List.length_set, List.length_replicate, List.length_take, List.length_drop, List.length_append, List.length_cons, List.length_nil, ofB_length, toB_length]; unfold maxLen; omega) | (simp; done) | (simp; omega) | rfl | decide) (by first | (with_reducible assumption) | omega | (unfold maxLen; omega) | (simp only [nums_length, List.length_set, List.length_replicate, List.length_take, List.length_drop, List.length_append, List.length_cons, List.length_nil, ofB_length, toB_length]; omega) | (simp only [nums_length, List.length_set, List.length_replicate, List.length_take, List.length_drop, List.length_append, List.length_cons, List.length_nil, ofB_length, toB_length]; unfold maxLen; omega) | (simp; done) | (simp; omega) | rfl | decide)) ?_
                    rintro v132 H50 hS50
                    clear hS49
                    refine AnyW.only 9 rfl (by kernel_rfl) rfl (dst_lt rfl) (s_append (sz := 2) (by_ := 24) (z := .agg #[.int .i64 0, S []]) hS50 at1 Try.underlying31 (by kernel_rfl) (by kernel_rfl) (by kernel_rfl) rfl (by kernel_rfl) rfl rfl (src_vec (hS50.vec (by first | exact at0 | exact at1)) (fun u hu => recC_one ⟨st.la + 1, (o i).dat⟩ u hu)) (by first | (with_reducible assumption) | omega | (unfold maxLen; omega) | (simp only [nums_length, List.length_set, List.length_replicate, List.length_take, List.length_drop, List.length_append, List.length_cons, List.length_nil, ofB_length, toB_length]; omega) | (simp only [nums_length, List.length_set, List.length_replicate, List.length_take, List.length_drop, List.length_append, List.length_cons, List.length_nil, ofB_length, toB_length]; unfold maxLen; omega) | (simp; done) | (simp; omega) | rfl | decide) (by first | (with_reducible assumption) | omega | (unfold maxLen; omega) | (simp only [nums_length, List.length_set, List.length_replicate, List.length_take, List.length_drop, List.length_append, List.length_cons, List.length_nil, ofB_length, toB_length]; omega) | (simp only [nums_length, List.length_set, List.length_replicate, List.length_take, List.length_drop, List.length_append, List.length_cons, List.length_nil, ofB_length, toB_length]; unfold maxLen; omega) | (simp; done) | (simp; omega) | rfl | decide)) ?_
                    rintro v139 H51 hS51
                    clear hS50
                    replace hS51 := hS51.del del0
                    refine AnyW.onlyQ 10 rfl (by kernel_rfl) rfl (dst_lt rfl) (q_assign (v := v139) rfl) ?_
                    refine AnyW.done (by kernel_rfl) ?_
                    replace hS51 := hS51.del del1
                    exact CutP.go ⟨v139, _, trivial, Slots.eq ⟨(by first | rfl | exact i64_int (by omega) (by omega) (by omega) | assumption), (by first | rfl | exact i64_int (by omega) (by omega) (by omega) | assumption), (by first | rfl | exact i64_int (by omega) (by omega) (by omega) | assumption), (by first | rfl | exact i64_int (by omega) (by omega) (by omega) | assumption), (by first | rfl | exact i64_int (by omega) (by omega) (by omega) | assumption), (by first | rfl | exact i64_int (by omega) (by omega) (by omega) | assumption), (by first | rfl | exact i64_int (by omega) (by omega) (by omega) | assumption), (by first | rfl | exact i64_int (by omega) (by omega) (by omega) | assumption), (by first | rfl | exact i64_int (by omega) (by omega) (by omega) | assumption), (by first | rfl | exact i64_int (by omega) (by omega) (by omega) | assumption), (by first | rfl | exact i64_int (by omega) (by omega) (by omega) | assumption), (by first | rfl | exact i64_int (by omega) (by omega) (by omega) | assumption), (by first | rfl | exact i64_int (by omega) (by omega) (by omega) | assumption), (by first | rfl | exact i64_int (by omega) (by omega) (by omega) | assumption), (by first | rfl | exact i64_int (by omega) (by omega) (by omega) | assumption),  trivial⟩, (by rw [List.length_append, rowsV_append, rowsV_one]; simpa using hS51)⟩
                ·
                  rintro v138 H52 hS52
                  clear hS34
                  refine AnyW.only 0 rfl (by kernel_rfl) rfl (dst_lt rfl) (s_buildSlice0 hS52 Try.underlying31 (sz := 2) (by kernel_rfl)) ?_
                  rintro v130 H53 hS53
                  clear hS52
                  refine AnyW.only 2 rfl (by kernel_rfl) rfl (dst_lt rfl) (s_append (sz := 2) (by_ := 24) (z := .agg #[.int .i64 0, S []]) hS53 at0 Try.underlying31 (by kernel_rfl) (by kernel_rfl) (by kernel_rfl) rfl (by kernel_rfl) rfl rfl (src_vec (hS53.vec (by first | exact at0 | exact at1 | exact at2 | exact at3 | exact at4)) (fun u hu => by obtain ⟨r, _, hr⟩ := List.mem_flatMap.1 hu; exact recC_one r u hr)) (by first | (with_reducible assumption) | omega | (unfold maxLen; omega) | (simp only [nums_length, List.length_set, List.length_replicate, List.length_take, List.length_drop, List.length_append, List.length_cons, List.length_nil, ofB_length, toB_length]; omega) | (simp only [nums_length, List.length_set, List.length_replicate, List.length_take, List.length_drop, List.length_append, List.length_cons, List.length_nil, ofB_length, toB_length]; unfold maxLen; omega) | (simp; done) | (simp; omega) | rfl | decide) (by first | (with_reducible assumption) | omega | (unfold maxLen; omega) | (simp only [nums_length, List.length_set, List.length_replicate, List.length_take, List.length_drop, List.length_append, List.length_cons, List.length_nil, ofB_length, toB_length]; omega) | (simp only [nums_length, List.length_set, List.length_replicate, List.length_take, List.length_drop, List.length_append, List.length_cons, List.length_nil, ofB_length, toB_length]; unfold maxLen; omega) | (simp; done) | (simp; omega) | rfl | decide)) ?_
                  rintro v132 H54 hS54
                  clear hS53
                  refine AnyW.only 9 rfl (by kernel_rfl) rfl (dst_lt rfl) (s_append (sz := 2) (by_ := 24) (z := .agg #[.int .i64 0, S []]) hS54 at0 Try.underlying31 (by kernel_rfl) (by kernel_rfl) (by kernel_rfl) rfl (by kernel_rfl) rfl rfl (src_vec (hS54.vec (by first | exact at0 | exact at1)) (fun u hu => recC_one ⟨st.la + 1, (o i).dat⟩ u hu)) (by first | (with_reducible assumption) | omega | (unfold maxLen; omega) | (simp only [nums_length, List.length_set, List.length_replicate, List.length_take, List.length_drop, List.length_append, List.length_cons, List.length_nil, ofB_length, toB_length]; omega) | (simp only [nums_length, List.length_set, List.length_replicate, List.length_take, List.length_drop, List.length_append, List.length_cons, List.length_nil, ofB_length, toB_length]; unfold maxLen; omega) | (simp; done) | (simp; omega) | rfl | decide) (by first | (with_reducible assumption) | omega | (unfold maxLen; omega) | (simp only [nums_length, List.length_set, List.length_replicate, List.length_take, List.length_drop, List.length_append, List.length_cons, List.length_nil, ofB_length, toB_length]; omega) | (simp only [nums_length, List.length_set, List.length_replicate, List.length_take, List.length_drop, List.length_append, List.length_cons, List.length_nil, ofB_length, toB_length]; unfold maxLen; omega) | (simp; done) | (simp; omega) | rfl | decide)) ?_
                  rintro v139 H55 hS55
                  clear hS54
                  replace hS55 := hS55.del del1
                  refine AnyW.onlyQ 10 rfl (by kernel_rfl) rfl (dst_lt rfl) (q_assign (v := v139) rfl) ?_
                  refine AnyW.done (by kernel_rfl) ?_
                  replace hS55 := hS55.del del1
                  exact CutP.go ⟨v139, _, trivial, Slots.eq ⟨(by first | rfl | exact i64_int (by omega) (by omega) (by omega) | assumption), (by first | rfl | exact i64_int (by omega) (by omega) (by omega) | assumption), (by first | rfl | exact i64_int (by omega) (by omega) (by omega) | assumption), (by first | rfl | exact i64_int (by omega) (by omega) (by omega) | assumption), (by first | rfl | exact i64_int (by omega) (by omega) (by omega) | assumption), (by first | rfl | exact i64_int (by omega) (by omega) (by omega) | assumption), (by first | rfl | exact i64_int (by omega) (by omega) (by omega) | assumption), (by first | rfl | exact i64_int (by omega) (by omega) (by omega) | assumption), (by first | rfl | exact i64_int (by omega) (by omega) (by omega) | assumption), (by first | rfl | exact i64_int (by omega) (by omega) (by omega) | assumption), (by first | rfl | exact i64_int (by omega) (by omega) (by omega) | assumption), (by first | rfl | exact i64_int (by omega) (by omega) (by omega) | assumption), (by first | rfl | exact i64_int (by omega) (by omega) (by omega) | assumption), (by first | rfl | exact i64_int (by omega) (by omega) (by omega) | assumption), (by first | rfl | exact i64_int (by omega) (by omega) (by omega) | assumption),  trivial⟩, (by rw [List.length_append, rowsV_append, rowsV_one]; simpa using hS55)⟩
            exfalso
            try simp only [eb56, eb124, decide_eq_true_eq, decide_eq_false_iff_not, Bool.or_eq_true, Bool.and_eq_true, Bool.or_eq_false_iff, Bool.and_eq_false_imp, Bool.not_eq_true', Bool.not_eq_false', ne_eq, Decidable.not_not, Int.not_lt, Int.not_le, Bool.not_eq_true, Bool.not_eq_false] at h8
            have h1d : (o i).dat ≠ [] := fun e => hpd (.inl e)
            have := List.length_pos_iff.2 h1d
            have : ¬ 8192 < (o i).dat.length := fun e => hpd (.inr e)
            omega
          rintro _ Hc56 ⟨nxv, _, _, rfl, hSc56⟩
          try clear hS34
          refine AW.seq ?_
          refine AW.region ?_
          refine OpsW.q rfl (q_move (v := .int _ _) rfl) ?_
          refine OpsW.q rfl (q_eql rfl rfl) ?_
          refine OpsW.nil ?_
          refine SeqP.go ?_
          refine AW.cond rfl (fun h9 => ?_) (fun h9 => ?_)
          ·
            try simp only [eb56, decide_eq_true_eq, decide_eq_false_iff_not, Bool.or_eq_true, Bool.and_eq_true, Bool.or_eq_false_iff, Bool.and_eq_false_imp, Bool.not_eq_true', Bool.not_eq_false', ne_eq, Decidable.not_not, Int.not_lt, Int.not_le, Bool.not_eq_true, Bool.not_eq_false] at h9
            refine AW.region ?_
            refine OpsW.q rfl (q_move (v := nxv) rfl) ?_
            refine OpsW.q rfl (q_assign (v := nxv) rfl) ?_
            refine OpsW.nil ?_
            obtain ⟨HX, hleX, hvX, hSX⟩ := (Sep.bring del0 hSc56).freeze
            replace hSX := hSX.del del0
            exact CutP.go ⟨HX, nxv, nxv, _, _, _, _, _, _, ⟨hleX, hvX, hvX, hpsit, by rw [List.length_append]; simp; omega, by rw [List.length_append]; simp; omega⟩, Slots.eq ⟨(by first | rfl | exact i64_int (by omega) (by omega) (by omega) | assumption), (by first | rfl | exact i64_int (by omega) (by omega) (by omega) | assumption), (by first | rfl | exact i64_int (by omega) (by omega) (by omega) | assumption), (by first | rfl | exact i64_int (by omega) (by omega) (by omega) | assumption), (by first | rfl | exact i64_int (by omega) (by omega) (by omega) | assumption), (by first | rfl | exact i64_int (by omega) (by omega) (by omega) | assumption), (by first | rfl | exact i64_int (by omega) (by omega) (by omega) | assumption), (by first | rfl | exact i64_int (by omega) (by omega) (by omega) | assumption), (by first | rfl | exact i64_int (by omega) (by omega) (by omega) | assumption), (by first | rfl | exact i64_int (by omega) (by omega) (by omega) | assumption), (by first | rfl | exact i64_int (by omega) (by omega) (by omega) | assumption), (by first | rfl | exact i64_int (by omega) (by omega) (by omega) | assumption), (by first | rfl | exact i64_int (by omega) (by omega) (by omega) | assumption),  trivial⟩, hSX⟩
          exfalso
          try simp only [eb56, decide_eq_true_eq, decide_eq_false_iff_not, Bool.or_eq_true, Bool.and_eq_true, Bool.or_eq_false_iff, Bool.and_eq_false_imp, Bool.not_eq_true', Bool.not_eq_false', ne_eq, Decidable.not_not, Int.not_lt, Int.not_le, Bool.not_eq_true, Bool.not_eq_false] at h9
          simp at h9
        exfalso
        try simp only [eb56, decide_eq_true_eq, decide_eq_false_iff_not, Bool.or_eq_true, Bool.and_eq_true, Bool.or_eq_false_iff, Bool.and_eq_false_imp, Bool.not_eq_true', Bool.not_eq_false', ne_eq, Decidable.not_not, Int.not_lt, Int.not_le, Bool.not_eq_true, Bool.not_eq_false] at h6
        simp at h6
    try simp only [eb56, decide_eq_true_eq, decide_eq_false_iff_not, Bool.or_eq_true, Bool.and_eq_true, Bool.or_eq_false_iff, Bool.and_eq_false_imp, Bool.not_eq_true', Bool.not_eq_false', ne_eq, Decidable.not_not, Int.not_lt, Int.not_le, Bool.not_eq_true, Bool.not_eq_false] at h5
    have htkA := tk_arm (hL.tk (by omega)) hcut
    have hkl : (kp (o i).n st.l).length ≤ 100000 := Nat.le_trans (List.length_filter_le _ _) hll
    refine AW.seq ?_
    rcases ack_sit hL (by omega) hmk hcut (o i).n with ⟨had, hae, hasit⟩ | ⟨had, x2, t2, hae, hac, hasit⟩ | ⟨had, x2, t2, hae, hasit⟩
    ·
      refine AW.region ?_
      refine OpsW.q rfl (q_move (v := .pointer _) rfl) ?_
      refine OpsW.q rfl (q_fieldAddr (sz := 0) Try.underlying40 rfl (by kernel_rfl) rfl) ?_
      refine OpsW.q rfl (q_load (v := .int _ _) (by kernel_rfl) rfl (hS8.blk at0) rfl) ?_
      obtain ⟨Hf57, le57, hA57, hB57⟩ := hS8.framed at3
      refine OpsW.m rfl (o_call rfl Try.func9 rfl rfl (Ack_e hA57 hL.ok htkA hae)) ?_
      rintro _ H57 ⟨rfl, hR57⟩
      have hS57 := hB57 _ _ hR57
      clear hR57 hB57 hA57
      clear hS8
      refine OpsW.q rfl (q_assign (v := .int _ _) rfl) ?_
      refine OpsW.nil ?_
      refine SeqP.go ?_
      refine AW.seq ?_
      refine AW.seq ?_
      refine AW.region ?_
      refine OpsW.q rfl (q_move (v := .int _ _) rfl) ?_
      refine OpsW.q rfl (q_eql rfl rfl) ?_
      refine OpsW.q rfl (q_fieldAddr (sz := 0) Try.underlying40 rfl (by kernel_rfl) rfl) ?_
      refine OpsW.q rfl (q_load (v := .int _ _) (by kernel_rfl) rfl (hS57.blk at0) rfl) ?_
      refine OpsW.q rfl (q_move (v := .int _ _) rfl) ?_
      refine OpsW.q rfl (q_gtr rfl rfl) ?_
      refine OpsW.q rfl (q_neqB Try.underlying4 rfl rfl) ?_
      refine OpsW.qb rfl (q_move (v := .bool _) rfl) ?_
      intro b164 eb164
      refine OpsW.g rfl rfl rfl (fun hB => by simp only [Bool.and_eq_true, beq_iff_eq] at hB; obtain rfl := hB; exact (q_move (v := .int _ _) rfl)) ?_
      refine OpsW.g rfl rfl rfl (fun hB => by simp only [Bool.and_eq_true, beq_iff_eq] at hB; obtain rfl := hB; exact (q_neq rfl rfl)) ?_
      refine OpsW.gb rfl rfl rfl (fun hB => by simp only [Bool.and_eq_true, beq_iff_eq] at hB; obtain rfl := hB; exact (q_move (v := .bool _) rfl)) ?_
      intro b167 eb167
      refine OpsW.gg rfl rfl rfl (fun hB => by simp only [Bool.and_eq_true, beq_iff_eq] at hB; obtain ⟨rfl, rfl⟩ := hB; exact (q_move (v := .int _ _) rfl)) ?_
      refine OpsW.gg rfl rfl rfl (fun hB => by simp only [Bool.and_eq_true, beq_iff_eq] at hB; obtain ⟨rfl, rfl⟩ := hB; exact (q_neq rfl rfl)) ?_
      refine OpsW.g rfl rfl rfl (fun hB => by simp only [Bool.and_eq_true, beq_iff_eq] at hB; obtain rfl := hB; exact (q_and2 rfl rfl rfl)) ?_
      refine OpsW.gb rfl rfl rfl (fun hB => by simp only [Bool.and_eq_true, beq_iff_eq] at hB; obtain rfl := hB; exact (q_move (v := .bool _) rfl)) ?_
      intro b171 eb171
      refine OpsW.gg rfl rfl rfl (fun hB => by simp only [Bool.and_eq_true, beq_iff_eq] at hB; obtain ⟨rfl, rfl⟩ := hB; exact (q_move (v := .int _ _) rfl)) ?_
      refine OpsW.gg rfl rfl rfl (fun hB => by simp only [Bool.and_eq_true, beq_iff_eq] at hB; obtain ⟨rfl, rfl⟩ := hB; exact (q_neq rfl rfl)) ?_
      refine OpsW.ggb rfl rfl rfl (fun hB => by simp only [Bool.and_eq_true, beq_iff_eq] at hB; obtain ⟨rfl, rfl⟩ := hB; exact (q_move (v := .bool _) rfl)) ?_
      intro b174 eb174
      refine OpsW.gg rfl rfl rfl (fun hB => by simp only [Bool.and_eq_true, beq_iff_eq] at hB; obtain ⟨⟨rfl, rfl⟩, rfl⟩ := hB; exact (q_move (v := .int _ _) rfl)) ?_
      refine OpsW.gg rfl rfl rfl (fun hB => by simp only [Bool.and_eq_true, beq_iff_eq] at hB; obtain ⟨⟨rfl, rfl⟩, rfl⟩ := hB; exact (q_lss rfl rfl)) ?_
      refine OpsW.gg rfl rfl rfl (fun hB => by simp only [Bool.and_eq_true, beq_iff_eq] at hB; obtain ⟨rfl, rfl⟩ := hB; exact (q_or2 rfl rfl rfl)) ?_
      refine OpsW.g rfl rfl rfl (fun hB => by simp only [Bool.and_eq_true, beq_iff_eq] at hB; obtain rfl := hB; exact (q_and2 rfl rfl rfl)) ?_
      refine OpsW.q rfl (q_or2 rfl rfl rfl) ?_
      refine OpsW.nil ?_
      refine SeqP.go ?_
      refine AW.cond rfl (fun h11 => ?_) (fun h11 => ?_)
      ·
        exfalso
        try simp only [eb56, eb164, eb167, eb171, eb174, decide_eq_true_eq, decide_eq_false_iff_not, Bool.or_eq_true, Bool.and_eq_true, Bool.or_eq_false_iff, Bool.and_eq_false_imp, Bool.not_eq_true', Bool.not_eq_false', ne_eq, Decidable.not_not, Int.not_lt, Int.not_le, Bool.not_eq_true, Bool.not_eq_false] at h11
        simp_all <;> omega
      try simp only [eb56, eb164, eb167, eb171, eb174, decide_eq_true_eq, decide_eq_false_iff_not, Bool.or_eq_true, Bool.and_eq_true, Bool.or_eq_false_iff, Bool.and_eq_false_imp, Bool.not_eq_true', Bool.not_eq_false', ne_eq, Decidable.not_not, Int.not_lt, Int.not_le, Bool.not_eq_true, Bool.not_eq_false] at h11
      refine AW.skip ?_
      refine SeqP.go ?_
      refine AW.seq ?_
      refine AW.region ?_
      refine OpsW.q rfl (q_assign (v := .slice _ _ _) rfl) ?_
      refine OpsW.nil ?_
      refine SeqP.go ?_
      refine AW.seq ?_
      refine AW.seq ?_
      refine AW.region ?_
      refine OpsW.q rfl (q_assign (v := .int _ _) rfl) ?_
      refine OpsW.nil ?_
      refine SeqP.go ?_
      refine AW.block ?_
      replace hS57 := hS57.nil (el := 46) (sz := 2)
      replace hS57 := Sep.bring del4 hS57
      replace hS57 := Sep.bring del4 hS57
      replace hS57 := Sep.bring del3 hS57
      replace hS57 := Sep.bring del4 hS57
      replace hS57 := Sep.bring del4 hS57
      refine AW.loop (fun m_ e_ H_ => ∃ (k : Nat) (nxv : Value) (e0 : Env), m_ = st.l.length - k ∧ (k ≤ st.l.length) ∧ e_ = upds e0 [(0, .slice rops m0 c0), (1, vc), (2, vk), (7, .pointer (some ⟨b33, 0, none⟩)), (9, .pointer (some ⟨bs, 0, none⟩)), (11, nv), (12, .map (some b51)), (13, .int .i64 (i : Int)), (14, .pointer (some ⟨b14, 0, none⟩)), (15, .int .i64 cut), (16, .int .i64 keep), (17, .int .i64 st.ak), (18, .int .i64 st.la), (19, nxv), (22, .int .i64 44), (23, .int .i64 (k : Int))] ∧ Sep H [.vec nxv 46 2 ((st.l.take k).length) (rowsV recC (st.l.take k)), .vec nv 46 2 st.l.length (rowsV recC st.l), .blk b14 ⟨[.int .i64 (o i).ask, S (o i).dat, .int .i64 (o i).n, .bool (o i).sp], 4, 40⟩, .blk b51 (mpB (ents ((Value.int .i64)) m)), spC bs b33 ⟨st, 1000, false⟩ (armP (firmT f) cut)] H_) _ ⟨0, nilV, _, rfl, (Nat.zero_le _), Slots.eq ⟨(by first | rfl | exact i64_int (by omega) (by omega) (by omega) | assumption), (by first | rfl | exact i64_int (by omega) (by omega) (by omega) | assumption), (by first | rfl | exact i64_int (by omega) (by omega) (by omega) | assumption), (by first | rfl | exact i64_int (by omega) (by omega) (by omega) | assumption), (by first | rfl | exact i64_int (by omega) (by omega) (by omega) | assumption), (by first | rfl | exact i64_int (by omega) (by omega) (by omega) | assumption), (by first | rfl | exact i64_int (by omega) (by omega) (by omega) | assumption), (by first | rfl | exact i64_int (by omega) (by omega) (by omega) | assumption), (by first | rfl | exact i64_int (by omega) (by omega) (by omega) | assumption), (by first | rfl | exact i64_int (by omega) (by omega) (by omega) | assumption), (by first | rfl | exact i64_int (by omega) (by omega) (by omega) | assumption), (by first | rfl | exact i64_int (by omega) (by omega) (by omega) | assumption), (by first | rfl | exact i64_int (by omega) (by omega) (by omega) | assumption), (by first | rfl | exact i64_int (by omega) (by omega) (by omega) | assumption), (by first | rfl | exact i64_int (by omega) (by omega) (by omega) | assumption), (by first | rfl | exact i64_int (by omega) (by omega) (by omega) | assumption),  trivial⟩, hS57⟩ ?_
      rintro m_ _ Hl1 ⟨k, nxv, e0, rfl, hf, rfl, hSl1⟩
      try clear hS57
      have hkb : (kp (o i).n (st.l.take k)).length ≤ k := Nat.le_trans (List.length_filter_le _ _) (by rw [List.length_take]; omega)
      refine AW.seq ?_
      refine AW.seq ?_
      refine AW.region ?_
      refine OpsW.q rfl (q_move (v := .int _ _) rfl) ?_
      refine OpsW.q rfl (q_move (v := nv) rfl) ?_
      refine OpsW.q rfl (q_lenVec Try.underlying31 rfl (hSl1.vec at1)) ?_
      refine OpsW.q rfl (q_lss rfl rfl) ?_
      refine OpsW.nil ?_
      refine SeqP.go ?_
      refine AW.cond2 rfl (fun h12 => ?_) (fun h12 => ?_)
      ·
        try simp only [eb56, eb164, eb167, eb171, eb174, decide_eq_true_eq, decide_eq_false_iff_not, Bool.or_eq_true, Bool.and_eq_true, Bool.or_eq_false_iff, Bool.and_eq_false_imp, Bool.not_eq_true', Bool.not_eq_false', ne_eq, Decidable.not_not, Int.not_lt, Int.not_le, Bool.not_eq_true, Bool.not_eq_false] at h12
        refine AW.exit ?_
        refine SeqP.exit ?_
        refine LoopP.exit ?_
        obtain rfl : k = st.l.length := by omega
        rw [List.take_length] at hSl1
        refine BlockP.here ?_
        refine SeqP.go ?_
        refine AW.seq ?_
        refine AW.region ?_
        refine OpsW.q rfl (q_move (v := .int _ _) rfl) ?_
        refine OpsW.q rfl (q_eql rfl rfl) ?_
        refine OpsW.nil ?_
        refine SeqP.go ?_
        refine AW.cond rfl (fun h14 => ?_) (fun h14 => ?_)
        ·
          exfalso
          try simp only [eb56, eb164, eb167, eb171, eb174, decide_eq_true_eq, decide_eq_false_iff_not, Bool.or_eq_true, Bool.and_eq_true, Bool.or_eq_false_iff, Bool.and_eq_false_imp, Bool.not_eq_true', Bool.not_eq_false', ne_eq, Decidable.not_not, Int.not_lt, Int.not_le, Bool.not_eq_true, Bool.not_eq_false] at h14
          simp at h14
        try simp only [eb56, eb164, eb167, eb171, eb174, decide_eq_true_eq, decide_eq_false_iff_not, Bool.or_eq_true, Bool.and_eq_true, Bool.or_eq_false_iff, Bool.and_eq_false_imp, Bool.not_eq_true', Bool.not_eq_false', ne_eq, Decidable.not_not, Int.not_lt, Int.not_le, Bool.not_eq_true, Bool.not_eq_false] at h14
        refine AW.skip ?_
        obtain ⟨HN, hleN, hvN, hSN⟩ := (Sep.bring del1 hSl1).freeze
        obtain ⟨HX, hleX, hvX, hSX⟩ := (Sep.bring del0 hSN).freeze
        replace hSX := hSX.del del0
        exact CutP.go ⟨HX, nv, nxv, st.l, st.l, m, _, _, _, ⟨Hp.le_trans hleN hleX, Vec.le hvN hleX, hvX, hasit st.l, hll, hll⟩, Slots.eq ⟨(by first | rfl | exact i64_int (by omega) (by omega) (by omega) | assumption), (by first | rfl | exact i64_int (by omega) (by omega) (by omega) | assumption), (by first | rfl | exact i64_int (by omega) (by omega) (by omega) | assumption), (by first | rfl | exact i64_int (by omega) (by omega) (by omega) | assumption), (by first | rfl | exact i64_int (by omega) (by omega) (by omega) | assumption), (by first | rfl | exact i64_int (by omega) (by omega) (by omega) | assumption), (by first | rfl | exact i64_int (by omega) (by omega) (by omega) | assumption), (by first | rfl | exact i64_int (by omega) (by omega) (by omega) | assumption), (by first | rfl | exact i64_int (by omega) (by omega) (by omega) | assumption), (by first | rfl | exact i64_int (by omega) (by omega) (by omega) | assumption), (by first | rfl | exact i64_int (by omega) (by omega) (by omega) | assumption), (by first | rfl | exact i64_int (by omega) (by omega) (by omega) | assumption), (by first | rfl | exact i64_int (by omega) (by omega) (by omega) | assumption),  trivial⟩, hSX⟩
      try simp only [eb56, eb164, eb167, eb171, eb174, decide_eq_true_eq, decide_eq_false_iff_not, Bool.or_eq_true, Bool.and_eq_true, Bool.or_eq_false_iff, Bool.and_eq_false_imp, Bool.not_eq_true', Bool.not_eq_false', ne_eq, Decidable.not_not, Int.not_lt, Int.not_le, Bool.not_eq_true, Bool.not_eq_false] at h12
      have hkl2 : k < st.l.length := by omega
      obtain ⟨r, hr⟩ : ∃ r, st.l[k]? = some r := ⟨st.l[k], List.getElem?_eq_getElem hkl2⟩
      have htm := take_more hr
      have hkm2 := kp_more (n := (o i).n) hr
      refine AW.skip ?_
      refine SeqP.go ?_
      refine AW.seq ?_
      refine AW.block ?_
      refine AW.seq ?_
      refine AW.drawK [] 7 rfl (by kernel_rfl) ?_
      refine SeqK.q rfl (q_move (v := nv) rfl) ?_
      refine SeqK.q rfl (q_move (v := .int _ _) rfl) ?_
      refine SeqK.q rfl (q_indexV (hSl1.vec at1) Try.underlying31 (by kernel_rfl) rfl rfl (by first | omega | decide) (by first | omega | decide)) ?_
      refine SeqK.q rfl (q_fieldV (s2 := 0) (hSl1.vec at1) (by omega) Try.underlying46 rfl (by kernel_rfl) rfl) ?_
      refine SeqK.q rfl (q_loadV (hSl1.vec (by first | exact at1 | exact at0 | exact at2)) (by kernel_rfl) rfl (rowsV_get recC_len hr rfl)) ?_
      refine SeqK.q rfl (q_fieldAddr (sz := 0) Try.underlying40 rfl (by kernel_rfl) rfl) ?_
      refine SeqK.q rfl (q_load (v := .int _ _) (by kernel_rfl) rfl (hSl1.blk at2) rfl) ?_
      refine SeqK.done ?_
      refine OpsW.q rfl (q_gtr rfl rfl) ?_
      refine OpsW.qb rfl (q_move (v := .bool _) rfl) ?_
      intro b194 eb194
      refine OpsW.g rfl rfl rfl (fun hB => by simp only [Bool.and_eq_true, beq_iff_eq] at hB; obtain rfl := hB; exact (q_move (v := .int _ _) rfl)) ?_
      refine OpsW.g rfl rfl rfl (fun hB => by simp only [Bool.and_eq_true, beq_iff_eq] at hB; obtain rfl := hB; exact (q_eql rfl rfl)) ?_
      refine OpsW.q rfl (q_or2 rfl rfl rfl) ?_
      refine OpsW.nil ?_
      refine SeqP.go ?_
      refine AW.cond rfl (fun h13 => ?_) (fun h13 => ?_)
      ·
        try simp only [eb56, eb164, eb167, eb171, eb174, eb194, decide_eq_true_eq, decide_eq_false_iff_not, Bool.or_eq_true, Bool.and_eq_true, Bool.or_eq_false_iff, Bool.and_eq_false_imp, Bool.not_eq_true', Bool.not_eq_false', ne_eq, Decidable.not_not, Int.not_lt, Int.not_le, Bool.not_eq_true, Bool.not_eq_false] at h13
        refine AW.region ?_
        refine OpsW.q rfl (q_move (v := nxv) rfl) ?_
        refine OpsW.q rfl (q_move (v := nv) rfl) ?_
        refine OpsW.q rfl (q_move (v := .int _ _) rfl) ?_
        refine OpsW.q rfl (q_indexV (hSl1.vec at1) Try.underlying31 (by kernel_rfl) rfl rfl (by first | omega | decide) (by first | omega | decide)) ?_
        refine OpsW.q rfl (q_loadVR (hSl1.vec (by first | exact at0 | exact at1 | exact at2)) recC_len (by kernel_rfl) rfl hr (by omega)) ?_
        refine OpsW.m rfl (s_buildSlice2 (z := .agg #[.int .i64 0, S []]) hSl1 Try.underlying31 (by kernel_rfl) (by kernel_rfl) rfl) ?_
        rintro v203 H58 hS58
        clear hSl1
        refine OpsW.m rfl (s_append (sz := 2) (by_ := 24) (z := .agg #[.int .i64 0, S []]) hS58 at1 Try.underlying31 (by kernel_rfl) (by kernel_rfl) (by kernel_rfl) rfl (by kernel_rfl) rfl rfl (src_vec (hS58.vec at0) (fun u hu => recC_one r u hu)) (by first | (with_reducible assumption) | omega | (unfold maxLen; omega) | (simp only [nums_length, List.length_set, List.length_replicate, List.length_take, List.length_drop, List.length_append, List.length_cons, List.length_nil, ofB_length, toB_length]; omega) | (simp only [nums_length, List.length_set, List.length_replicate, List.length_take, List.length_drop, List.length_append, List.length_cons, List.length_nil, ofB_length, toB_length]; unfold maxLen; omega) | (simp; done) | (simp; omega) | rfl | decide) (by first | (with_reducible assumption) | omega | (unfold maxLen; omega) | (simp only [nums_length, List.length_set, List.length_replicate, List.length_take, List.length_drop, List.length_append, List.length_cons, List.length_nil, ofB_length, toB_length]; omega) | (simp only [nums_length, List.length_set, List.length_replicate, List.length_take, List.length_drop, List.length_append, List.length_cons, List.length_nil, ofB_length, toB_length]; unfold maxLen; omega) | (simp; done) | (simp; omega) | rfl | decide)) ?_
        rintro v204 H59 hS59
        clear hS58
        replace hS59 := hS59.del del0
        refine OpsW.q rfl (q_assign (v := v204) rfl) ?_
        refine OpsW.nil ?_
        refine BlockP.go ?_
        refine SeqP.go ?_
        refine AW.region ?_
        refine OpsW.q rfl (q_move (v := .int _ _) rfl) ?_
        refine OpsW.q rfl (q_addI rfl rfl (by omega)) ?_
        refine OpsW.q rfl (q_assign (v := .int _ _) rfl) ?_
        refine OpsW.nil ?_
        exact LoopP.go _ (by omega) ⟨k + 1, v204, _, rfl, (by omega), Slots.eq ⟨(by first | rfl | exact i64_int (by omega) (by omega) (by omega) | assumption), (by first | rfl | exact i64_int (by omega) (by omega) (by omega) | assumption), (by first | rfl | exact i64_int (by omega) (by omega) (by omega) | assumption), (by first | rfl | exact i64_int (by omega) (by omega) (by omega) | assumption), (by first | rfl | exact i64_int (by omega) (by omega) (by omega) | assumption), (by first | rfl | exact i64_int (by omega) (by omega) (by omega) | assumption), (by first | rfl | exact i64_int (by omega) (by omega) (by omega) | assumption), (by first | rfl | exact i64_int (by omega) (by omega) (by omega) | assumption), (by first | rfl | exact i64_int (by omega) (by omega) (by omega) | assumption), (by first | rfl | exact i64_int (by omega) (by omega) (by omega) | assumption), (by first | rfl | exact i64_int (by omega) (by omega) (by omega) | assumption), (by first | rfl | exact i64_int (by omega) (by omega) (by omega) | assumption), (by first | rfl | exact i64_int (by omega) (by omega) (by omega) | assumption), (by first | rfl | exact i64_int (by omega) (by omega) (by omega) | assumption), (by first | rfl | exact i64_int (by omega) (by omega) (by omega) | assumption), (by first | rfl | exact i64_int (by omega) (by omega) (by omega) | assumption),  trivial⟩, (by rw [htm, List.length_append, rowsV_append, rowsV_one]; exact hS59)⟩
      exfalso
      try simp only [eb56, eb164, eb167, eb171, eb174, eb194, decide_eq_true_eq, decide_eq_false_iff_not, Bool.or_eq_true, Bool.and_eq_true, Bool.or_eq_false_iff, Bool.and_eq_false_imp, Bool.not_eq_true', Bool.not_eq_false', ne_eq, Decidable.not_not, Int.not_lt, Int.not_le, Bool.not_eq_true, Bool.not_eq_false] at h13
      simp_all
    ·
      refine AW.region ?_
      refine OpsW.q rfl (q_move (v := .pointer _) rfl) ?_
      refine OpsW.q rfl (q_fieldAddr (sz := 0) Try.underlying40 rfl (by kernel_rfl) rfl) ?_
      refine OpsW.q rfl (q_load (v := .int _ _) (by kernel_rfl) rfl (hS8.blk at0) rfl) ?_
      obtain ⟨Hf60, le60, hA60, hB60⟩ := hS8.framed at3
      refine OpsW.m rfl (o_call rfl Try.func9 rfl rfl (Ack_e hA60 hL.ok htkA hae)) ?_
      rintro _ H60 ⟨rfl, hR60⟩
      have hS60 := hB60 _ _ hR60
      clear hR60 hB60 hA60
      clear hS8
      refine OpsW.q rfl (q_assign (v := .int _ _) rfl) ?_
      refine OpsW.nil ?_
      refine SeqP.go ?_
      refine AW.seq ?_
      refine AW.seq ?_
      refine AW.region ?_
      refine OpsW.q rfl (q_move (v := .int _ _) rfl) ?_
      refine OpsW.q rfl (q_eql rfl rfl) ?_
      refine OpsW.q rfl (q_fieldAddr (sz := 0) Try.underlying40 rfl (by kernel_rfl) rfl) ?_
      refine OpsW.q rfl (q_load (v := .int _ _) (by kernel_rfl) rfl (hS60.blk at0) rfl) ?_
      refine OpsW.q rfl (q_move (v := .int _ _) rfl) ?_
      refine OpsW.q rfl (q_gtr rfl rfl) ?_
      refine OpsW.q rfl (q_neqB Try.underlying4 rfl rfl) ?_
      refine OpsW.qb rfl (q_move (v := .bool _) rfl) ?_
      intro b164 eb164
      refine OpsW.g rfl rfl rfl (fun hB => by simp only [Bool.and_eq_true, beq_iff_eq] at hB; obtain rfl := hB; exact (q_move (v := .int _ _) rfl)) ?_
      refine OpsW.g rfl rfl rfl (fun hB => by simp only [Bool.and_eq_true, beq_iff_eq] at hB; obtain rfl := hB; exact (q_neq rfl rfl)) ?_
      refine OpsW.gb rfl rfl rfl (fun hB => by simp only [Bool.and_eq_true, beq_iff_eq] at hB; obtain rfl := hB; exact (q_move (v := .bool _) rfl)) ?_
      intro b167 eb167
      refine OpsW.gg rfl rfl rfl (fun hB => by simp only [Bool.and_eq_true, beq_iff_eq] at hB; obtain ⟨rfl, rfl⟩ := hB; exact (q_move (v := .int _ _) rfl)) ?_
      refine OpsW.gg rfl rfl rfl (fun hB => by simp only [Bool.and_eq_true, beq_iff_eq] at hB; obtain ⟨rfl, rfl⟩ := hB; exact (q_neq rfl rfl)) ?_
      refine OpsW.g rfl rfl rfl (fun hB => by simp only [Bool.and_eq_true, beq_iff_eq] at hB; obtain rfl := hB; exact (q_and2 rfl rfl rfl)) ?_
      refine OpsW.gb rfl rfl rfl (fun hB => by simp only [Bool.and_eq_true, beq_iff_eq] at hB; obtain rfl := hB; exact (q_move (v := .bool _) rfl)) ?_
      intro b171 eb171
      refine OpsW.gg rfl rfl rfl (fun hB => by simp only [Bool.and_eq_true, beq_iff_eq] at hB; obtain ⟨rfl, rfl⟩ := hB; exact (q_move (v := .int _ _) rfl)) ?_
      refine OpsW.gg rfl rfl rfl (fun hB => by simp only [Bool.and_eq_true, beq_iff_eq] at hB; obtain ⟨rfl, rfl⟩ := hB; exact (q_neq rfl rfl)) ?_
      refine OpsW.ggb rfl rfl rfl (fun hB => by simp only [Bool.and_eq_true, beq_iff_eq] at hB; obtain ⟨rfl, rfl⟩ := hB; exact (q_move (v := .bool _) rfl)) ?_
      intro b174 eb174
      refine OpsW.gg rfl rfl rfl (fun hB => by simp only [Bool.and_eq_true, beq_iff_eq] at hB; obtain ⟨⟨rfl, rfl⟩, rfl⟩ := hB; exact (q_move (v := .int _ _) rfl)) ?_
      refine OpsW.gg rfl rfl rfl (fun hB => by simp only [Bool.and_eq_true, beq_iff_eq] at hB; obtain ⟨⟨rfl, rfl⟩, rfl⟩ := hB; exact (q_lss rfl rfl)) ?_
      refine OpsW.gg rfl rfl rfl (fun hB => by simp only [Bool.and_eq_true, beq_iff_eq] at hB; obtain ⟨rfl, rfl⟩ := hB; exact (q_or2 rfl rfl rfl)) ?_
      refine OpsW.g rfl rfl rfl (fun hB => by simp only [Bool.and_eq_true, beq_iff_eq] at hB; obtain rfl := hB; exact (q_and2 rfl rfl rfl)) ?_
      refine OpsW.q rfl (q_or2 rfl rfl rfl) ?_
      refine OpsW.nil ?_
      refine SeqP.go ?_
      refine AW.cond rfl (fun h11 => ?_) (fun h11 => ?_)
      ·
        exfalso
        try simp only [eb56, eb164, eb167, eb171, eb174, decide_eq_true_eq, decide_eq_false_iff_not, Bool.or_eq_true, Bool.and_eq_true, Bool.or_eq_false_iff, Bool.and_eq_false_imp, Bool.not_eq_true', Bool.not_eq_false', ne_eq, Decidable.not_not, Int.not_lt, Int.not_le, Bool.not_eq_true, Bool.not_eq_false] at h11
        simp_all <;> omega
      try simp only [eb56, eb164, eb167, eb171, eb174, decide_eq_true_eq, decide_eq_false_iff_not, Bool.or_eq_true, Bool.and_eq_true, Bool.or_eq_false_iff, Bool.and_eq_false_imp, Bool.not_eq_true', Bool.not_eq_false', ne_eq, Decidable.not_not, Int.not_lt, Int.not_le, Bool.not_eq_true, Bool.not_eq_false] at h11
      refine AW.skip ?_
      refine SeqP.go ?_
      refine AW.seq ?_
      refine AW.region ?_
      refine OpsW.q rfl (q_assign (v := .slice _ _ _) rfl) ?_
      refine OpsW.nil ?_
      refine SeqP.go ?_
      refine AW.seq ?_
      refine AW.seq ?_
      refine AW.region ?_
      refine OpsW.q rfl (q_assign (v := .int _ _) rfl) ?_
      refine OpsW.nil ?_
      refine SeqP.go ?_
      refine AW.block ?_
      replace hS60 := hS60.nil (el := 46) (sz := 2)
      replace hS60 := Sep.bring del4 hS60
      replace hS60 := Sep.bring del4 hS60
      replace hS60 := Sep.bring del3 hS60
      replace hS60 := Sep.bring del4 hS60
      replace hS60 := Sep.bring del4 hS60
      refine AW.loop (fun m_ e_ H_ => ∃ (k : Nat) (nxv : Value) (e0 : Env), m_ = st.l.length - k ∧ (k ≤ st.l.length) ∧ e_ = upds e0 [(0, .slice rops m0 c0), (1, vc), (2, vk), (7, .pointer (some ⟨b33, 0, none⟩)), (9, .pointer (some ⟨bs, 0, none⟩)), (11, nv), (12, .map (some b51)), (13, .int .i64 (i : Int)), (14, .pointer (some ⟨b14, 0, none⟩)), (15, .int .i64 cut), (16, .int .i64 keep), (17, .int .i64 st.ak), (18, .int .i64 st.la), (19, nxv), (22, .int .i64 41), (23, .int .i64 (k : Int))] ∧ Sep H [.vec nxv 46 2 ((kp (o i).n (st.l.take k)).length) (rowsV recC (kp (o i).n (st.l.take k))), .vec nv 46 2 st.l.length (rowsV recC st.l), .blk b14 ⟨[.int .i64 (o i).ask, S (o i).dat, .int .i64 (o i).n, .bool (o i).sp], 4, 40⟩, .blk b51 (mpB (ents ((Value.int .i64)) m)), spC bs b33 x2 t2] H_) _ ⟨0, nilV, _, rfl, (Nat.zero_le _), Slots.eq ⟨(by first | rfl | exact i64_int (by omega) (by omega) (by omega) | assumption), (by first | rfl | exact i64_int (by omega) (by omega) (by omega) | assumption), (by first | rfl | exact i64_int (by omega) (by omega) (by omega) | assumption), (by first | rfl | exact i64_int (by omega) (by omega) (by omega) | assumption), (by first | rfl | exact i64_int (by omega) (by omega) (by omega) | assumption), (by first | rfl | exact i64_int (by omega) (by omega) (by omega) | assumption), (by first | rfl | exact i64_int (by omega) (by omega) (by omega) | assumption), (by first | rfl | exact i64_int (by omega) (by omega) (by omega) | assumption), (by first | rfl | exact i64_int (by omega) (by omega) (by omega) | assumption), (by first | rfl | exact i64_int (by omega) (by omega) (by omega) | assumption), (by first | rfl | exact i64_int (by omega) (by omega) (by omega) | assumption), (by first | rfl | exact i64_int (by omega) (by omega) (by omega) | assumption), (by first | rfl | exact i64_int (by omega) (by omega) (by omega) | assumption), (by first | rfl | exact i64_int (by omega) (by omega) (by omega) | assumption), (by first | rfl | exact i64_int (by omega) (by omega) (by omega) | assumption), (by first | rfl | exact i64_int (by omega) (by omega) (by omega) | assumption),  trivial⟩, hS60⟩ ?_
      rintro m_ _ Hl1 ⟨k, nxv, e0, rfl, hf, rfl, hSl1⟩
      try clear hS60
      have hkb : (kp (o i).n (st.l.take k)).length ≤ k := Nat.le_trans (List.length_filter_le _ _) (by rw [List.length_take]; omega)
      refine AW.seq ?_
      refine AW.seq ?_
      refine AW.region ?_
      refine OpsW.q rfl (q_move (v := .int _ _) rfl) ?_
      refine OpsW.q rfl (q_move (v := nv) rfl) ?_
      refine OpsW.q rfl (q_lenVec Try.underlying31 rfl (hSl1.vec at1)) ?_
      refine OpsW.q rfl (q_lss rfl rfl) ?_
      refine OpsW.nil ?_
      refine SeqP.go ?_
      refine AW.cond2 rfl (fun h12 => ?_) (fun h12 => ?_)
      ·
        try simp only [eb56, eb164, eb167, eb171, eb174, decide_eq_true_eq, decide_eq_false_iff_not, Bool.or_eq_true, Bool.and_eq_true, Bool.or_eq_false_iff, Bool.and_eq_false_imp, Bool.not_eq_true', Bool.not_eq_false', ne_eq, Decidable.not_not, Int.not_lt, Int.not_le, Bool.not_eq_true, Bool.not_eq_false] at h12
        refine AW.exit ?_
        refine SeqP.exit ?_
        refine LoopP.exit ?_
        obtain rfl : k = st.l.length := by omega
        rw [List.take_length] at hSl1
        refine BlockP.here ?_
        refine SeqP.go ?_
        refine AW.seq ?_
        refine AW.region ?_
        refine OpsW.q rfl (q_move (v := .int _ _) rfl) ?_
        refine OpsW.q rfl (q_eql rfl rfl) ?_
        refine OpsW.nil ?_
        refine SeqP.go ?_
        refine AW.cond rfl (fun h14 => ?_) (fun h14 => ?_)
        ·
          exfalso
          try simp only [eb56, eb164, eb167, eb171, eb174, decide_eq_true_eq, decide_eq_false_iff_not, Bool.or_eq_true, Bool.and_eq_true, Bool.or_eq_false_iff, Bool.and_eq_false_imp, Bool.not_eq_true', Bool.not_eq_false', ne_eq, Decidable.not_not, Int.not_lt, Int.not_le, Bool.not_eq_true, Bool.not_eq_false] at h14
          simp at h14
        try simp only [eb56, eb164, eb167, eb171, eb174, decide_eq_true_eq, decide_eq_false_iff_not, Bool.or_eq_true, Bool.and_eq_true, Bool.or_eq_false_iff, Bool.and_eq_false_imp, Bool.not_eq_true', Bool.not_eq_false', ne_eq, Decidable.not_not, Int.not_lt, Int.not_le, Bool.not_eq_true, Bool.not_eq_false] at h14
        refine AW.skip ?_
        obtain ⟨HN, hleN, hvN, hSN⟩ := (Sep.bring del1 hSl1).freeze
        obtain ⟨HX, hleX, hvX, hSX⟩ := (Sep.bring del0 hSN).freeze
        replace hSX := hSX.del del0
        exact CutP.go ⟨HX, nv, nxv, st.l, _, m, _, _, _, ⟨Hp.le_trans hleN hleX, Vec.le hvN hleX, hvX, hasit, hll, hkl⟩, Slots.eq ⟨(by first | rfl | exact i64_int (by omega) (by omega) (by omega) | assumption), (by first | rfl | exact i64_int (by omega) (by omega) (by omega) | assumption), (by first | rfl | exact i64_int (by omega) (by omega) (by omega) | assumption), (by first | rfl | exact i64_int (by omega) (by omega) (by omega) | assumption), (by first | rfl | exact i64_int (by omega) (by omega) (by omega) | assumption), (by first | rfl | exact i64_int (by omega) (by omega) (by omega) | assumption), (by first | rfl | exact i64_int (by omega) (by omega) (by omega) | assumption), (by first | rfl | exact i64_int (by omega) (by omega) (by omega) | assumption), (by first | rfl | exact i64_int (by omega) (by omega) (by omega) | assumption), (by first | rfl | exact i64_int (by omega) (by omega) (by omega) | assumption), (by first | rfl | exact i64_int (by omega) (by omega) (by omega) | assumption), (by first | rfl | exact i64_int (by omega) (by omega) (by omega) | assumption), (by first | rfl | exact i64_int (by omega) (by omega) (by omega) | assumption),  trivial⟩, hSX⟩
      try simp only [eb56, eb164, eb167, eb171, eb174, decide_eq_true_eq, decide_eq_false_iff_not, Bool.or_eq_true, Bool.and_eq_true, Bool.or_eq_false_iff, Bool.and_eq_false_imp, Bool.not_eq_true', Bool.not_eq_false', ne_eq, Decidable.not_not, Int.not_lt, Int.not_le, Bool.not_eq_true, Bool.not_eq_false] at h12
      have hkl2 : k < st.l.length := by omega
      obtain ⟨r, hr⟩ : ∃ r, st.l[k]? = some r := ⟨st.l[k], List.getElem?_eq_getElem hkl2⟩
      have htm := take_more hr
      have hkm2 := kp_more (n := (o i).n) hr
      refine AW.skip ?_
      refine SeqP.go ?_
      refine AW.seq ?_
      refine AW.block ?_
      refine AW.seq ?_
      refine AW.drawK [] 7 rfl (by kernel_rfl) ?_
      refine SeqK.q rfl (q_move (v := nv) rfl) ?_
      refine SeqK.q rfl (q_move (v := .int _ _) rfl) ?_
      refine SeqK.q rfl (q_indexV (hSl1.vec at1) Try.underlying31 (by kernel_rfl) rfl rfl (by first | omega | decide) (by first | omega | decide)) ?_
      refine SeqK.q rfl (q_fieldV (s2 := 0) (hSl1.vec at1) (by omega) Try.underlying46 rfl (by kernel_rfl) rfl) ?_
      refine SeqK.q rfl (q_loadV (hSl1.vec (by first | exact at1 | exact at0 | exact at2)) (by kernel_rfl) rfl (rowsV_get recC_len hr rfl)) ?_
      refine SeqK.q rfl (q_fieldAddr (sz := 0) Try.underlying40 rfl (by kernel_rfl) rfl) ?_
      refine SeqK.q rfl (q_load (v := .int _ _) (by kernel_rfl) rfl (hSl1.blk at2) rfl) ?_
      refine SeqK.done ?_
      refine OpsW.q rfl (q_gtr rfl rfl) ?_
      refine OpsW.qb rfl (q_move (v := .bool _) rfl) ?_
      intro b194 eb194
      refine OpsW.g rfl rfl rfl (fun hB => by simp only [Bool.and_eq_true, beq_iff_eq] at hB; obtain rfl := hB; exact (q_move (v := .int _ _) rfl)) ?_
      refine OpsW.g rfl rfl rfl (fun hB => by simp only [Bool.and_eq_true, beq_iff_eq] at hB; obtain rfl := hB; exact (q_eql rfl rfl)) ?_
      refine OpsW.q rfl (q_or2 rfl rfl rfl) ?_
      refine OpsW.nil ?_
      refine SeqP.go ?_
      refine AW.cond rfl (fun h13 => ?_) (fun h13 => ?_)
      ·
        try simp only [eb56, eb164, eb167, eb171, eb174, eb194, decide_eq_true_eq, decide_eq_false_iff_not, Bool.or_eq_true, Bool.and_eq_true, Bool.or_eq_false_iff, Bool.and_eq_false_imp, Bool.not_eq_true', Bool.not_eq_false', ne_eq, Decidable.not_not, Int.not_lt, Int.not_le, Bool.not_eq_true, Bool.not_eq_false] at h13
        have hn : (o i).n < r.seq := by simp_all
        rw [if_pos hn] at hkm2
        refine AW.region ?_
        refine OpsW.q rfl (q_move (v := nxv) rfl) ?_
        refine OpsW.q rfl (q_move (v := nv) rfl) ?_
        refine OpsW.q rfl (q_move (v := .int _ _) rfl) ?_
        refine OpsW.q rfl (q_indexV (hSl1.vec at1) Try.underlying31 (by kernel_rfl) rfl rfl (by first | omega | decide) (by first | omega | decide)) ?_
        refine OpsW.q rfl (q_loadVR (hSl1.vec (by first | exact at0 | exact at1 | exact at2)) recC_len (by kernel_rfl) rfl hr (by omega)) ?_
        refine OpsW.m rfl (s_buildSlice2 (z := .agg #[.int .i64 0, S []]) hSl1 Try.underlying31 (by kernel_rfl) (by kernel_rfl) rfl) ?_
        rintro v203 H61 hS61
        clear hSl1
        refine OpsW.m rfl (s_append (sz := 2) (by_ := 24) (z := .agg #[.int .i64 0, S []]) hS61 at1 Try.underlying31 (by kernel_rfl) (by kernel_rfl) (by kernel_rfl) rfl (by kernel_rfl) rfl rfl (src_vec (hS61.vec at0) (fun u hu => recC_one r u hu)) (by first | (with_reducible assumption) | omega | (unfold maxLen; omega) | (simp only [nums_length, List.length_set, List.length_replicate, List.length_take, List.length_drop, List.length_append, List.length_cons, List.length_nil, ofB_length, toB_length]; omega) | (simp only [nums_length, List.length_set, List.length_replicate, List.length_take, List.length_drop, List.length_append, List.length_cons, List.length_nil, ofB_length, toB_length]; unfold maxLen; omega) | (simp; done) | (simp; omega) | rfl | decide) (by first | (with_reducible assumption) | omega | (unfold maxLen; omega) | (simp only [nums_length, List.length_set, List.length_replicate, List.length_take, List.length_drop, List.length_append, List.length_cons, List.length_nil, ofB_length, toB_length]; omega) | (simp only [nums_length, List.length_set, List.length_replicate, List.length_take, List.length_drop, List.length_append, List.length_cons, List.length_nil, ofB_length, toB_length]; unfold maxLen; omega) | (simp; done) | (simp; omega) | rfl | decide)) ?_
        rintro v204 H62 hS62
        clear hS61
        replace hS62 := hS62.del del0
        refine OpsW.q rfl (q_assign (v := v204) rfl) ?_
        refine OpsW.nil ?_
        refine BlockP.go ?_
        refine SeqP.go ?_
        refine AW.region ?_
        refine OpsW.q rfl (q_move (v := .int _ _) rfl) ?_
        refine OpsW.q rfl (q_addI rfl rfl (by omega)) ?_
        refine OpsW.q rfl (q_assign (v := .int _ _) rfl) ?_
        refine OpsW.nil ?_
        exact LoopP.go _ (by omega) ⟨k + 1, v204, _, rfl, (by omega), Slots.eq ⟨(by first | rfl | exact i64_int (by omega) (by omega) (by omega) | assumption), (by first | rfl | exact i64_int (by omega) (by omega) (by omega) | assumption), (by first | rfl | exact i64_int (by omega) (by omega) (by omega) | assumption), (by first | rfl | exact i64_int (by omega) (by omega) (by omega) | assumption), (by first | rfl | exact i64_int (by omega) (by omega) (by omega) | assumption), (by first | rfl | exact i64_int (by omega) (by omega) (by omega) | assumption), (by first | rfl | exact i64_int (by omega) (by omega) (by omega) | assumption), (by first | rfl | exact i64_int (by omega) (by omega) (by omega) | assumption), (by first | rfl | exact i64_int (by omega) (by omega) (by omega) | assumption), (by first | rfl | exact i64_int (by omega) (by omega) (by omega) | assumption), (by first | rfl | exact i64_int (by omega) (by omega) (by omega) | assumption), (by first | rfl | exact i64_int (by omega) (by omega) (by omega) | assumption), (by first | rfl | exact i64_int (by omega) (by omega) (by omega) | assumption), (by first | rfl | exact i64_int (by omega) (by omega) (by omega) | assumption), (by first | rfl | exact i64_int (by omega) (by omega) (by omega) | assumption), (by first | rfl | exact i64_int (by omega) (by omega) (by omega) | assumption),  trivial⟩, (by rw [hkm2, List.length_append, rowsV_append, rowsV_one]; exact hS62)⟩
      try simp only [eb56, eb164, eb167, eb171, eb174, eb194, decide_eq_true_eq, decide_eq_false_iff_not, Bool.or_eq_true, Bool.and_eq_true, Bool.or_eq_false_iff, Bool.and_eq_false_imp, Bool.not_eq_true', Bool.not_eq_false', ne_eq, Decidable.not_not, Int.not_lt, Int.not_le, Bool.not_eq_true, Bool.not_eq_false] at h13
      have hn : ¬ (o i).n < r.seq := by simp_all <;> omega
      rw [if_neg hn] at hkm2
      refine AW.skip ?_
      refine BlockP.go ?_
      refine SeqP.go ?_
      refine AW.region ?_
      refine OpsW.q rfl (q_move (v := .int _ _) rfl) ?_
      refine OpsW.q rfl (q_addI rfl rfl (by omega)) ?_
      refine OpsW.q rfl (q_assign (v := .int _ _) rfl) ?_
      refine OpsW.nil ?_
      exact LoopP.go _ (by omega) ⟨k + 1, nxv, _, rfl, (by omega), Slots.eq ⟨(by first | rfl | exact i64_int (by omega) (by omega) (by omega) | assumption), (by first | rfl | exact i64_int (by omega) (by omega) (by omega) | assumption), (by first | rfl | exact i64_int (by omega) (by omega) (by omega) | assumption), (by first | rfl | exact i64_int (by omega) (by omega) (by omega) | assumption), (by first | rfl | exact i64_int (by omega) (by omega) (by omega) | assumption), (by first | rfl | exact i64_int (by omega) (by omega) (by omega) | assumption), (by first | rfl | exact i64_int (by omega) (by omega) (by omega) | assumption), (by first | rfl | exact i64_int (by omega) (by omega) (by omega) | assumption), (by first | rfl | exact i64_int (by omega) (by omega) (by omega) | assumption), (by first | rfl | exact i64_int (by omega) (by omega) (by omega) | assumption), (by first | rfl | exact i64_int (by omega) (by omega) (by omega) | assumption), (by first | rfl | exact i64_int (by omega) (by omega) (by omega) | assumption), (by first | rfl | exact i64_int (by omega) (by omega) (by omega) | assumption), (by first | rfl | exact i64_int (by omega) (by omega) (by omega) | assumption), (by first | rfl | exact i64_int (by omega) (by omega) (by omega) | assumption), (by first | rfl | exact i64_int (by omega) (by omega) (by omega) | assumption),  trivial⟩, (by rw [hkm2]; exact hSl1)⟩
    ·
      refine AW.region ?_
      refine OpsW.q rfl (q_move (v := .pointer _) rfl) ?_
      refine OpsW.q rfl (q_fieldAddr (sz := 0) Try.underlying40 rfl (by kernel_rfl) rfl) ?_
      refine OpsW.q rfl (q_load (v := .int _ _) (by kernel_rfl) rfl (hS8.blk at0) rfl) ?_
      obtain ⟨Hf63, le63, hA63, hB63⟩ := hS8.framed at3
      refine OpsW.m rfl (o_call rfl Try.func9 rfl rfl (Ack_e hA63 hL.ok htkA hae)) ?_
      rintro _ H63 ⟨rfl, hR63⟩
      have hS63 := hB63 _ _ hR63
      clear hR63 hB63 hA63
      clear hS8
      refine OpsW.q rfl (q_assign (v := .int _ _) rfl) ?_
      refine OpsW.nil ?_
      refine SeqP.go ?_
      refine AW.seq ?_
      refine AW.seq ?_
      refine AW.region ?_
      refine OpsW.q rfl (q_move (v := .int _ _) rfl) ?_
      refine OpsW.q rfl (q_eql rfl rfl) ?_
      refine OpsW.q rfl (q_fieldAddr (sz := 0) Try.underlying40 rfl (by kernel_rfl) rfl) ?_
      refine OpsW.q rfl (q_load (v := .int _ _) (by kernel_rfl) rfl (hS63.blk at0) rfl) ?_
      refine OpsW.q rfl (q_move (v := .int _ _) rfl) ?_
      refine OpsW.q rfl (q_gtr rfl rfl) ?_
      refine OpsW.q rfl (q_neqB Try.underlying4 rfl rfl) ?_
      refine OpsW.qb rfl (q_move (v := .bool _) rfl) ?_
      intro b164 eb164
      refine OpsW.g rfl rfl rfl (fun hB => by simp only [Bool.and_eq_true, beq_iff_eq] at hB; obtain rfl := hB; exact (q_move (v := .int _ _) rfl)) ?_
      refine OpsW.g rfl rfl rfl (fun hB => by simp only [Bool.and_eq_true, beq_iff_eq] at hB; obtain rfl := hB; exact (q_neq rfl rfl)) ?_
      refine OpsW.gb rfl rfl rfl (fun hB => by simp only [Bool.and_eq_true, beq_iff_eq] at hB; obtain rfl := hB; exact (q_move (v := .bool _) rfl)) ?_
      intro b167 eb167
      refine OpsW.gg rfl rfl rfl (fun hB => by simp only [Bool.and_eq_true, beq_iff_eq] at hB; obtain ⟨rfl, rfl⟩ := hB; exact (q_move (v := .int _ _) rfl)) ?_
      refine OpsW.gg rfl rfl rfl (fun hB => by simp only [Bool.and_eq_true, beq_iff_eq] at hB; obtain ⟨rfl, rfl⟩ := hB; exact (q_neq rfl rfl)) ?_
      refine OpsW.g rfl rfl rfl (fun hB => by simp only [Bool.and_eq_true, beq_iff_eq] at hB; obtain rfl := hB; exact (q_and2 rfl rfl rfl)) ?_
      refine OpsW.gb rfl rfl rfl (fun hB => by simp only [Bool.and_eq_true, beq_iff_eq] at hB; obtain rfl := hB; exact (q_move (v := .bool _) rfl)) ?_
      intro b171 eb171
      refine OpsW.gg rfl rfl rfl (fun hB => by simp only [Bool.and_eq_true, beq_iff_eq] at hB; obtain ⟨rfl, rfl⟩ := hB; exact (q_move (v := .int _ _) rfl)) ?_
      refine OpsW.gg rfl rfl rfl (fun hB => by simp only [Bool.and_eq_true, beq_iff_eq] at hB; obtain ⟨rfl, rfl⟩ := hB; exact (q_neq rfl rfl)) ?_
      refine OpsW.ggb rfl rfl rfl (fun hB => by simp only [Bool.and_eq_true, beq_iff_eq] at hB; obtain ⟨rfl, rfl⟩ := hB; exact (q_move (v := .bool _) rfl)) ?_
      intro b174 eb174
      refine OpsW.gg rfl rfl rfl (fun hB => by simp only [Bool.and_eq_true, beq_iff_eq] at hB; obtain ⟨⟨rfl, rfl⟩, rfl⟩ := hB; exact (q_move (v := .int _ _) rfl)) ?_
      refine OpsW.gg rfl rfl rfl (fun hB => by simp only [Bool.and_eq_true, beq_iff_eq] at hB; obtain ⟨⟨rfl, rfl⟩, rfl⟩ := hB; exact (q_lss rfl rfl)) ?_
      refine OpsW.gg rfl rfl rfl (fun hB => by simp only [Bool.and_eq_true, beq_iff_eq] at hB; obtain ⟨rfl, rfl⟩ := hB; exact (q_or2 rfl rfl rfl)) ?_
      refine OpsW.g rfl rfl rfl (fun hB => by simp only [Bool.and_eq_true, beq_iff_eq] at hB; obtain rfl := hB; exact (q_and2 rfl rfl rfl)) ?_
      refine OpsW.q rfl (q_or2 rfl rfl rfl) ?_
      refine OpsW.nil ?_
      refine SeqP.go ?_
      refine AW.cond rfl (fun h11 => ?_) (fun h11 => ?_)
      ·
        exfalso
        try simp only [eb56, eb164, eb167, eb171, eb174, decide_eq_true_eq, decide_eq_false_iff_not, Bool.or_eq_true, Bool.and_eq_true, Bool.or_eq_false_iff, Bool.and_eq_false_imp, Bool.not_eq_true', Bool.not_eq_false', ne_eq, Decidable.not_not, Int.not_lt, Int.not_le, Bool.not_eq_true, Bool.not_eq_false] at h11
        simp_all <;> omega
      try simp only [eb56, eb164, eb167, eb171, eb174, decide_eq_true_eq, decide_eq_false_iff_not, Bool.or_eq_true, Bool.and_eq_true, Bool.or_eq_false_iff, Bool.and_eq_false_imp, Bool.not_eq_true', Bool.not_eq_false', ne_eq, Decidable.not_not, Int.not_lt, Int.not_le, Bool.not_eq_true, Bool.not_eq_false] at h11
      refine AW.skip ?_
      refine SeqP.go ?_
      refine AW.seq ?_
      refine AW.region ?_
      refine OpsW.q rfl (q_assign (v := .slice _ _ _) rfl) ?_
      refine OpsW.nil ?_
      refine SeqP.go ?_
      refine AW.seq ?_
      refine AW.seq ?_
      refine AW.region ?_
      refine OpsW.q rfl (q_assign (v := .int _ _) rfl) ?_
      refine OpsW.nil ?_
      refine SeqP.go ?_
      refine AW.block ?_
      replace hS63 := hS63.nil (el := 46) (sz := 2)
      replace hS63 := Sep.bring del4 hS63
      replace hS63 := Sep.bring del4 hS63
      replace hS63 := Sep.bring del3 hS63
      replace hS63 := Sep.bring del4 hS63
      replace hS63 := Sep.bring del4 hS63
      refine AW.loop (fun m_ e_ H_ => ∃ (k : Nat) (nxv : Value) (e0 : Env), m_ = st.l.length - k ∧ (k ≤ st.l.length) ∧ e_ = upds e0 [(0, .slice rops m0 c0), (1, vc), (2, vk), (7, .pointer (some ⟨b33, 0, none⟩)), (9, .pointer (some ⟨bs, 0, none⟩)), (11, nv), (12, .map (some b51)), (13, .int .i64 (i : Int)), (14, .pointer (some ⟨b14, 0, none⟩)), (15, .int .i64 cut), (16, .int .i64 keep), (17, .int .i64 st.ak), (18, .int .i64 st.la), (19, nxv), (22, .int .i64 0), (23, .int .i64 (k : Int))] ∧ Sep H [.vec nxv 46 2 ((kp (o i).n (st.l.take k)).length) (rowsV recC (kp (o i).n (st.l.take k))), .vec nv 46 2 st.l.length (rowsV recC st.l), .blk b14 ⟨[.int .i64 (o i).ask, S (o i).dat, .int .i64 (o i).n, .bool (o i).sp], 4, 40⟩, .blk b51 (mpB (ents ((Value.int .i64)) m)), spC bs b33 x2 t2] H_) _ ⟨0, nilV, _, rfl, (Nat.zero_le _), Slots.eq ⟨(by first | rfl | exact i64_int (by omega) (by omega) (by omega) | assumption), (by first | rfl | exact i64_int (by omega) (by omega) (by omega) | assumption), (by first | rfl | exact i64_int (by omega) (by omega) (by omega) | assumption), (by first | rfl | exact i64_int (by omega) (by omega) (by omega) | assumption), (by first | rfl | exact i64_int (by omega) (by omega) (by omega) | assumption), (by first | rfl | exact i64_int (by omega) (by omega) (by omega) | assumption), (by first | rfl | exact i64_int (by omega) (by omega) (by omega) | assumption), (by first | rfl | exact i64_int (by omega) (by omega) (by omega) | assumption), (by first | rfl | exact i64_int (by omega) (by omega) (by omega) | assumption), (by first | rfl | exact i64_int (by omega) (by omega) (by omega) | assumption), (by first | rfl | exact i64_int (by omega) (by omega) (by omega) | assumption), (by first | rfl | exact i64_int (by omega) (by omega) (by omega) | assumption), (by first | rfl | exact i64_int (by omega) (by omega) (by omega) | assumption), (by first | rfl | exact i64_int (by omega) (by omega) (by omega) | assumption), (by first | rfl | exact i64_int (by omega) (by omega) (by omega) | assumption), (by first | rfl | exact i64_int (by omega) (by omega) (by omega) | assumption),  trivial⟩, hS63⟩ ?_
      rintro m_ _ Hl1 ⟨k, nxv, e0, rfl, hf, rfl, hSl1⟩
      try clear hS63
      have hkb : (kp (o i).n (st.l.take k)).length ≤ k := Nat.le_trans (List.length_filter_le _ _) (by rw [List.length_take]; omega)
      refine AW.seq ?_
      refine AW.seq ?_
      refine AW.region ?_
      refine OpsW.q rfl (q_move (v := .int _ _) rfl) ?_
      refine OpsW.q rfl (q_move (v := nv) rfl) ?_
      refine OpsW.q rfl (q_lenVec Try.underlying31 rfl (hSl1.vec at1)) ?_
      refine OpsW.q rfl (q_lss rfl rfl) ?_
      refine OpsW.nil ?_
      refine SeqP.go ?_
      refine AW.cond2 rfl (fun h12 => ?_) (fun h12 => ?_)
      ·
        try simp only [eb56, eb164, eb167, eb171, eb174, decide_eq_true_eq, decide_eq_false_iff_not, Bool.or_eq_true, Bool.and_eq_true, Bool.or_eq_false_iff, Bool.and_eq_false_imp, Bool.not_eq_true', Bool.not_eq_false', ne_eq, Decidable.not_not, Int.not_lt, Int.not_le, Bool.not_eq_true, Bool.not_eq_false] at h12
        refine AW.exit ?_
        refine SeqP.exit ?_
        refine LoopP.exit ?_
        obtain rfl : k = st.l.length := by omega
        rw [List.take_length] at hSl1
        refine BlockP.here ?_
        refine SeqP.go ?_
        refine AW.seq ?_
        refine AW.region ?_
        refine OpsW.q rfl (q_move (v := .int _ _) rfl) ?_
        refine OpsW.q rfl (q_eql rfl rfl) ?_
        refine OpsW.nil ?_
        refine SeqP.go ?_
        refine AW.cond rfl (fun h14 => ?_) (fun h14 => ?_)
        ·
          try simp only [eb56, eb164, eb167, eb171, eb174, decide_eq_true_eq, decide_eq_false_iff_not, Bool.or_eq_true, Bool.and_eq_true, Bool.or_eq_false_iff, Bool.and_eq_false_imp, Bool.not_eq_true', Bool.not_eq_false', ne_eq, Decidable.not_not, Int.not_lt, Int.not_le, Bool.not_eq_true, Bool.not_eq_false] at h14
          refine AW.region ?_
          refine OpsW.q rfl (q_move (v := nxv) rfl) ?_
          refine OpsW.q rfl (q_assign (v := nxv) rfl) ?_
          refine OpsW.nil ?_
          obtain ⟨HX, hleX, hvX, hSX⟩ := (Sep.bring del0 hSl1).freeze
          replace hSX := hSX.del del0
          replace hSX := hSX.del del0
          exact CutP.go ⟨HX, nxv, nxv, _, _, m, _, _, _, ⟨hleX, hvX, hvX, hasit, hkl, hkl⟩, Slots.eq ⟨(by first | rfl | exact i64_int (by omega) (by omega) (by omega) | assumption), (by first | rfl | exact i64_int (by omega) (by omega) (by omega) | assumption), (by first | rfl | exact i64_int (by omega) (by omega) (by omega) | assumption), (by first | rfl | exact i64_int (by omega) (by omega) (by omega) | assumption), (by first | rfl | exact i64_int (by omega) (by omega) (by omega) | assumption), (by first | rfl | exact i64_int (by omega) (by omega) (by omega) | assumption), (by first | rfl | exact i64_int (by omega) (by omega) (by omega) | assumption), (by first | rfl | exact i64_int (by omega) (by omega) (by omega) | assumption), (by first | rfl | exact i64_int (by omega) (by omega) (by omega) | assumption), (by first | rfl | exact i64_int (by omega) (by omega) (by omega) | assumption), (by first | rfl | exact i64_int (by omega) (by omega) (by omega) | assumption), (by first | rfl | exact i64_int (by omega) (by omega) (by omega) | assumption), (by first | rfl | exact i64_int (by omega) (by omega) (by omega) | assumption),  trivial⟩, hSX⟩
        exfalso
        try simp only [eb56, eb164, eb167, eb171, eb174, decide_eq_true_eq, decide_eq_false_iff_not, Bool.or_eq_true, Bool.and_eq_true, Bool.or_eq_false_iff, Bool.and_eq_false_imp, Bool.not_eq_true', Bool.not_eq_false', ne_eq, Decidable.not_not, Int.not_lt, Int.not_le, Bool.not_eq_true, Bool.not_eq_false] at h14
        simp at h14
      try simp only [eb56, eb164, eb167, eb171, eb174, decide_eq_true_eq, decide_eq_false_iff_not, Bool.or_eq_true, Bool.and_eq_true, Bool.or_eq_false_iff, Bool.and_eq_false_imp, Bool.not_eq_true', Bool.not_eq_false', ne_eq, Decidable.not_not, Int.not_lt, Int.not_le, Bool.not_eq_true, Bool.not_eq_false] at h12
      have hkl2 : k < st.l.length := by omega
      obtain ⟨r, hr⟩ : ∃ r, st.l[k]? = some r := ⟨st.l[k], List.getElem?_eq_getElem hkl2⟩
      have htm := take_more hr
      have hkm2 := kp_more (n := (o i).n) hr
      refine AW.skip ?_
      refine SeqP.go ?_
      refine AW.seq ?_
      refine AW.block ?_
      refine AW.seq ?_
      refine AW.drawK [] 7 rfl (by kernel_rfl) ?_
      refine SeqK.q rfl (q_move (v := nv) rfl) ?_
      refine SeqK.q rfl (q_move (v := .int _ _) rfl) ?_
      refine SeqK.q rfl (q_indexV (hSl1.vec at1) Try.underlying31 (by kernel_rfl) rfl rfl (by first | omega | decide) (by first | omega | decide)) ?_
      refine SeqK.q rfl (q_fieldV (s2 := 0) (hSl1.vec at1) (by omega) Try.underlying46 rfl (by kernel_rfl) rfl) ?_
      refine SeqK.q rfl (q_loadV (hSl1.vec (by first | exact at1 | exact at0 | exact at2)) (by kernel_rfl) rfl (rowsV_get recC_len hr rfl)) ?_
      refine SeqK.q rfl (q_fieldAddr (sz := 0) Try.underlying40 rfl (by kernel_rfl) rfl) ?_
      refine SeqK.q rfl (q_load (v := .int _ _) (by kernel_rfl) rfl (hSl1.blk at2) rfl) ?_
      refine SeqK.done ?_
      refine OpsW.q rfl (q_gtr rfl rfl) ?_
      refine OpsW.qb rfl (q_move (v := .bool _) rfl) ?_
      intro b194 eb194
      refine OpsW.g rfl rfl rfl (fun hB => by simp only [Bool.and_eq_true, beq_iff_eq] at hB; obtain rfl := hB; exact (q_move (v := .int _ _) rfl)) ?_
      refine OpsW.g rfl rfl rfl (fun hB => by simp only [Bool.and_eq_true, beq_iff_eq] at hB; obtain rfl := hB; exact (q_eql rfl rfl)) ?_
      refine OpsW.q rfl (q_or2 rfl rfl rfl) ?_
      refine OpsW.nil ?_
      refine SeqP.go ?_
      refine AW.cond rfl (fun h13 => ?_) (fun h13 => ?_)
      ·
        try simp only [eb56, eb164, eb167, eb171, eb174, eb194, decide_eq_true_eq, decide_eq_false_iff_not, Bool.or_eq_true, Bool.and_eq_true, Bool.or_eq_false_iff, Bool.and_eq_false_imp, Bool.not_eq_true', Bool.not_eq_false', ne_eq, Decidable.not_not, Int.not_lt, Int.not_le, Bool.not_eq_true, Bool.not_eq_false] at h13
        have hn : (o i).n < r.seq := by simp_all
        rw [if_pos hn] at hkm2
        refine AW.region ?_
        refine OpsW.q rfl (q_move (v := nxv) rfl) ?_
        refine OpsW.q rfl (q_move (v := nv) rfl) ?_
        refine OpsW.q rfl (q_move (v := .int _ _) rfl) ?_
        refine OpsW.q rfl (q_indexV (hSl1.vec at1) Try.underlying31 (by kernel_rfl) rfl rfl (by first | omega | decide) (by first | omega | decide)) ?_
        refine OpsW.q rfl (q_loadVR (hSl1.vec (by first | exact at0 | exact at1 | exact at2)) recC_len (by kernel_rfl) rfl hr (by omega)) ?_
        refine OpsW.m rfl (s_buildSlice2 (z := .agg #[.int .i64 0, S []]) hSl1 Try.underlying31 (by kernel_rfl) (by kernel_rfl) rfl) ?_
        rintro v203 H64 hS64
        clear hSl1
        refine OpsW.m rfl (s_append (sz := 2) (by_ := 24) (z := .agg #[.int .i64 0, S []]) hS64 at1 Try.underlying31 (by kernel_rfl) (by kernel_rfl) (by kernel_rfl) rfl (by kernel_rfl) rfl rfl (src_vec (hS64.vec at0) (fun u hu => recC_one r u hu)) (by first | (with_reducible assumption) | omega | (unfold maxLen; omega) | (simp only [nums_length, List.length_set, List.length_replicate, List.length_take, List.length_drop, List.length_append, List.length_cons, List.length_nil, ofB_length, toB_length]; omega) | (simp only [nums_length, List.length_set, List.length_replicate, List.length_take, List.length_drop, List.length_append, List.length_cons, List.length_nil, ofB_length, toB_length]; unfold maxLen; omega) | (simp; done) | (simp; omega) | rfl | decide) (by first | (with_reducible assumption) | omega | (unfold maxLen; omega) | (simp only [nums_length, List.length_set, List.length_replicate, List.length_take, List.length_drop, List.length_append, List.length_cons, List.length_nil, ofB_length, toB_length]; omega) | (simp only [nums_length, List.length_set, List.length_replicate, List.length_take, List.length_drop, List.length_append, List.length_cons, List.length_nil, ofB_length, toB_length]; unfold maxLen; omega) | (simp; done) | (simp; omega) | rfl | decide)) ?_
        rintro v204 H65 hS65
        clear hS64
        replace hS65 := hS65.del del0
        refine OpsW.q rfl (q_assign (v := v204) rfl) ?_
        refine OpsW.nil ?_
        refine BlockP.go ?_
        refine SeqP.go ?_
        refine AW.region ?_
        refine OpsW.q rfl (q_move (v := .int _ _) rfl) ?_
        refine OpsW.q rfl (q_addI rfl rfl (by omega)) ?_
        refine OpsW.q rfl (q_assign (v := .int _ _) rfl) ?_
        refine OpsW.nil ?_
        exact LoopP.go _ (by omega) ⟨k + 1, v204, _, rfl, (by omega), Slots.eq ⟨(by first | rfl | exact i64_int (by omega) (by omega) (by omega) | assumption), (by first | rfl | exact i64_int (by omega) (by omega) (by omega) | assumption), (by first | rfl | exact i64_int (by omega) (by omega) (by omega) | assumption), (by first | rfl | exact i64_int (by omega) (by omega) (by omega) | assumption), (by first | rfl | exact i64_int (by omega) (by omega) (by omega) | assumption), (by first | rfl | exact i64_int (by omega) (by omega) (by omega) | assumption), (by first | rfl | exact i64_int (by omega) (by omega) (by omega) | assumption), (by first | rfl | exact i64_int (by omega) (by omega) (by omega) | assumption), (by first | rfl | exact i64_int (by omega) (by omega) (by omega) | assumption), (by first | rfl | exact i64_int (by omega) (by omega) (by omega) | assumption), (by first | rfl | exact i64_int (by omega) (by omega) (by omega) | assumption), (by first | rfl | exact i64_int (by omega) (by omega) (by omega) | assumption), (by first | rfl | exact i64_int (by omega) (by omega) (by omega) | assumption), (by first | rfl | exact i64_int (by omega) (by omega) (by omega) | assumption), (by first | rfl | exact i64_int (by omega) (by omega) (by omega) | assumption), (by first | rfl | exact i64_int (by omega) (by omega) (by omega) | assumption),  trivial⟩, (by rw [hkm2, List.length_append, rowsV_append, rowsV_one]; exact hS65)⟩
      try simp only [eb56, eb164, eb167, eb171, eb174, eb194, decide_eq_true_eq, decide_eq_false_iff_not, Bool.or_eq_true, Bool.and_eq_true, Bool.or_eq_false_iff, Bool.and_eq_false_imp, Bool.not_eq_true', Bool.not_eq_false', ne_eq, Decidable.not_not, Int.not_lt, Int.not_le, Bool.not_eq_true, Bool.not_eq_false] at h13
      have hn : ¬ (o i).n < r.seq := by simp_all <;> omega
      rw [if_neg hn] at hkm2
      refine AW.skip ?_
      refine BlockP.go ?_
      refine SeqP.go ?_
      refine AW.region ?_
      refine OpsW.q rfl (q_move (v := .int _ _) rfl) ?_
      refine OpsW.q rfl (q_addI rfl rfl (by omega)) ?_
      refine OpsW.q rfl (q_assign (v := .int _ _) rfl) ?_
      refine OpsW.nil ?_
      exact LoopP.go _ (by omega) ⟨k + 1, nxv, _, rfl, (by omega), Slots.eq ⟨(by first | rfl | exact i64_int (by omega) (by omega) (by omega) | assumption), (by first | rfl | exact i64_int (by omega) (by omega) (by omega) | assumption), (by first | rfl | exact i64_int (by omega) (by omega) (by omega) | assumption), (by first | rfl | exact i64_int (by omega) (by omega) (by omega) | assumption), (by first | rfl | exact i64_int (by omega) (by omega) (by omega) | assumption), (by first | rfl | exact i64_int (by omega) (by omega) (by omega) | assumption), (by first | rfl | exact i64_int (by omega) (by omega) (by omega) | assumption), (by first | rfl | exact i64_int (by omega) (by omega) (by omega) | assumption), (by first | rfl | exact i64_int (by omega) (by omega) (by omega) | assumption), (by first | rfl | exact i64_int (by omega) (by omega) (by omega) | assumption), (by first | rfl | exact i64_int (by omega) (by omega) (by omega) | assumption), (by first | rfl | exact i64_int (by omega) (by omega) (by omega) | assumption), (by first | rfl | exact i64_int (by omega) (by omega) (by omega) | assumption), (by first | rfl | exact i64_int (by omega) (by omega) (by omega) | assumption), (by first | rfl | exact i64_int (by omega) (by omega) (by omega) | assumption), (by first | rfl | exact i64_int (by omega) (by omega) (by omega) | assumption),  trivial⟩, (by rw [hkm2]; exact hSl1)⟩
  rintro _ Hc66 ⟨H1, nv2, nx2, now2, next2, m2, x2, t2, _, ⟨hle1, hv1, hv2, hSit, hn1, hn2⟩, rfl, hSc66⟩
  try clear hS8
  replace hSc66 := sp_tape (Sep.bring del1 hSc66)
  refine AW.seq ?_
  refine AW.region ?_
  refine OpsW.q rfl (q_move (v := .pointer _) rfl) ?_
  refine OpsW.q rfl (q_move (v := .int _ _) rfl) ?_
  refine OpsW.q rfl (q_move (v := .int _ _) rfl) ?_
  refine OpsW.q rfl (q_rem rfl rfl (by first | decide | omega)) ?_
  refine OpsW.q rfl (q_eql rfl rfl) ?_
  obtain ⟨Hf67, le67, hA67, hB67⟩ := hSc66.framed at0
  refine OpsW.m rfl (o_call rfl Try.func14 rfl rfl (Crash_s hA67 hSit.1 _ _)) ?_
  rintro _ H67 ⟨rfl, hR67⟩
  have hS67 := hB67 _ _ hR67
  clear hR67 hB67 hA67
  clear hSc66
  refine OpsW.nil ?_
  refine SeqP.go ?_
  refine AW.seq ?_
  obtain ⟨st4, f4, hO4⟩ := hSit.2 keep (decide (Int.tmod cut 2 = 0))
  have h4a := hO4.li.ok.1
  have h4b := hO4.li.la
  have h4c := hO4.li.ok.2.1
  have h4l : st4.l.length ≤ 100000 := by omega
  refine AW.region ?_
  refine OpsW.q rfl (q_move (v := .pointer _) rfl) ?_
  obtain ⟨Hf68, le68, hA68, hB68⟩ := hS67.framed at0
  refine OpsW.m rfl (o_call rfl Try.func6 rfl rfl (Open_e hA68 hO4.tk hO4.op hO4.sc)) ?_
  rintro _ H68 ⟨b216, rfl, hR68⟩
  have hS68 := hB68 _ _ hR68
  clear hR68 hB68 hA68
  clear hS67
  refine OpsW.q rfl (q_move (v := .tuple _) rfl) ?_
  refine OpsW.q rfl (q_extract (v := .pointer _) rfl rfl) ?_
  refine OpsW.q rfl (q_extract (v := .int _ _) rfl rfl) ?_
  refine OpsW.q rfl (q_assign (v := .pointer _) rfl) ?_
  refine OpsW.q rfl (q_assign (v := .int _ _) rfl) ?_
  refine OpsW.nil ?_
  refine SeqP.go ?_
  refine AW.seq ?_
  refine AW.seq ?_
  refine AW.region ?_
  refine OpsW.q rfl (q_move (v := .int _ _) rfl) ?_
  refine OpsW.q rfl (q_neq rfl rfl) ?_
  refine OpsW.q rfl (q_move (v := .bool false) rfl) ?_
  refine OpsW.qw rfl rfl (q_move (v := .pointer _) rfl) ?_
  refine OpsW.qw rfl rfl (q_eqlP Try.underlying22 rfl rfl) ?_
  refine OpsW.q rfl (q_or2 rfl rfl rfl) ?_
  refine OpsW.nil ?_
  refine SeqP.go ?_
  refine AW.cond rfl (fun h15 => ?_) (fun h15 => ?_)
  ·
    exfalso
    try simp only [eb56, decide_eq_true_eq, decide_eq_false_iff_not, Bool.or_eq_true, Bool.and_eq_true, Bool.or_eq_false_iff, Bool.and_eq_false_imp, Bool.not_eq_true', Bool.not_eq_false', ne_eq, Decidable.not_not, Int.not_lt, Int.not_le, Bool.not_eq_true, Bool.not_eq_false] at h15
    first | contradiction | (simp at *; done) | simp_all
  try simp only [eb56, decide_eq_true_eq, decide_eq_false_iff_not, Bool.or_eq_true, Bool.and_eq_true, Bool.or_eq_false_iff, Bool.and_eq_false_imp, Bool.not_eq_true', Bool.not_eq_false', ne_eq, Decidable.not_not, Int.not_lt, Int.not_le, Bool.not_eq_true, Bool.not_eq_false] at h15
  refine AW.skip ?_
  refine SeqP.go ?_
  refine AW.seq ?_
  refine AW.region ?_
  refine OpsW.q rfl (q_move (v := .pointer _) rfl) ?_
  refine OpsW.m rfl (o_call rfl Try.func10 rfl rfl (From_c hS68 at0 (by show st4.l.length ≤ _; omega))) ?_
  rintro v226 H69 hR69
  have hS69 := hS68.join hR69
  simp only [List.cons_append, List.nil_append] at hS69
  clear hR69 hS68
  rw [from_all hO4.li.ok (by have := hO4.li.la; have := hO4.li.ok.2.1; omega)] at hS69
  refine OpsW.q rfl (q_assign (v := v226) rfl) ?_
  refine OpsW.nil ?_
  refine SeqP.go ?_
  refine AW.cut (fun e_ H_ => ∃  (e0 : Env), (True) ∧ e_ = upds e0 [(0, .slice rops m0 c0), (1, vc), (2, vk), (7, .pointer (some ⟨b33, 0, none⟩)), (9, .pointer (some ⟨bs, 0, none⟩)), (11, nv2), (12, .map (some b51)), (13, .int .i64 (i : Int)), (17, .int .i64 st.ak), (18, .int .i64 st.la), (24, .pointer (some ⟨b216, 0, none⟩)), (26, v226)] ∧ Sep H1 [.vec v226 46 2 st4.l.length (rowsV recC st4.l), spC b216 b33 ⟨st4, 1000, false⟩ (firmT f4), .blk b51 (mpB (ents ((Value.int .i64)) m2))] H_) ?_ ?_
  ·
    refine AW.seq ?_
    by_cases hq : st4.l = now2
    ·
      refine AW.region ?_
      refine OpsW.q rfl (q_move (v := v226) rfl) ?_
      refine OpsW.q rfl (q_move (v := nv2) rfl) ?_
      refine OpsW.q rfl (o_call rfl Try.func15 rfl rfl (Same_con (hS69.vec (by first | exact at0 | exact at1)) (Vec.le hv1 hS69.le) (by omega) (by omega))) ?_
      rw [decide_eq_true hq]
      refine OpsW.q rfl (q_not rfl) ?_
      refine OpsW.q rfl (q_move (v := .bool false) rfl) ?_
      refine OpsW.p rfl rfl ?_
      refine OpsW.p rfl rfl ?_
      refine OpsW.p rfl rfl ?_
      refine OpsW.p rfl rfl ?_
      refine OpsW.q rfl (q_and2 (B := false) rfl rfl rfl) ?_
      refine OpsW.nil ?_
      refine SeqP.go ?_
      refine AW.cond rfl (fun h16 => ?_) (fun h16 => ?_)
      ·
        exfalso
        try simp only [eb56, decide_eq_true_eq, decide_eq_false_iff_not, Bool.or_eq_true, Bool.and_eq_true, Bool.or_eq_false_iff, Bool.and_eq_false_imp, Bool.not_eq_true', Bool.not_eq_false', ne_eq, Decidable.not_not, Int.not_lt, Int.not_le, Bool.not_eq_true, Bool.not_eq_false] at h16
        simp_all
      try simp only [eb56, decide_eq_true_eq, decide_eq_false_iff_not, Bool.or_eq_true, Bool.and_eq_true, Bool.or_eq_false_iff, Bool.and_eq_false_imp, Bool.not_eq_true', Bool.not_eq_false', ne_eq, Decidable.not_not, Int.not_lt, Int.not_le, Bool.not_eq_true, Bool.not_eq_false] at h16
      refine AW.skip ?_
      exact CutP.go ⟨_, trivial, Slots.eq ⟨(by first | rfl | exact i64_int (by omega) (by omega) (by omega) | assumption), (by first | rfl | exact i64_int (by omega) (by omega) (by omega) | assumption), (by first | rfl | exact i64_int (by omega) (by omega) (by omega) | assumption), (by first | rfl | exact i64_int (by omega) (by omega) (by omega) | assumption), (by first | rfl | exact i64_int (by omega) (by omega) (by omega) | assumption), (by first | rfl | exact i64_int (by omega) (by omega) (by omega) | assumption), (by first | rfl | exact i64_int (by omega) (by omega) (by omega) | assumption), (by first | rfl | exact i64_int (by omega) (by omega) (by omega) | assumption), (by first | rfl | exact i64_int (by omega) (by omega) (by omega) | assumption), (by first | rfl | exact i64_int (by omega) (by omega) (by omega) | assumption), (by first | rfl | exact i64_int (by omega) (by omega) (by omega) | assumption), (by first | rfl | exact i64_int (by omega) (by omega) (by omega) | assumption),  trivial⟩, hS69⟩
    ·
      have hnx : st4.l = next2 := hO4.l.resolve_left hq
      refine AW.region ?_
      refine OpsW.q rfl (q_move (v := v226) rfl) ?_
      refine OpsW.q rfl (q_move (v := nv2) rfl) ?_
      refine OpsW.q rfl (o_call rfl Try.func15 rfl rfl (Same_con (hS69.vec (by first | exact at0 | exact at1)) (Vec.le hv1 hS69.le) (by omega) (by omega))) ?_
      rw [decide_eq_false hq]
      refine OpsW.q rfl (q_not rfl) ?_
      refine OpsW.q rfl (q_move (v := .bool true) rfl) ?_
      refine OpsW.qw rfl rfl (q_move (v := v226) rfl) ?_
      refine OpsW.qw rfl rfl (q_move (v := nx2) rfl) ?_
      refine OpsW.qw rfl rfl (o_call rfl Try.func15 rfl rfl (Same_con (hS69.vec (by first | exact at0 | exact at1)) (Vec.le hv2 hS69.le) (by omega) (by omega))) ?_
      rw [decide_eq_true hnx]
      refine OpsW.qw rfl rfl (q_not rfl) ?_
      refine OpsW.q rfl (q_and2 rfl rfl rfl) ?_
      refine OpsW.nil ?_
      refine SeqP.go ?_
      refine AW.cond rfl (fun h16 => ?_) (fun h16 => ?_)
      ·
        exfalso
        try simp only [eb56, decide_eq_true_eq, decide_eq_false_iff_not, Bool.or_eq_true, Bool.and_eq_true, Bool.or_eq_false_iff, Bool.and_eq_false_imp, Bool.not_eq_true', Bool.not_eq_false', ne_eq, Decidable.not_not, Int.not_lt, Int.not_le, Bool.not_eq_true, Bool.not_eq_false] at h16
        simp_all
      try simp only [eb56, decide_eq_true_eq, decide_eq_false_iff_not, Bool.or_eq_true, Bool.and_eq_true, Bool.or_eq_false_iff, Bool.and_eq_false_imp, Bool.not_eq_true', Bool.not_eq_false', ne_eq, Decidable.not_not, Int.not_lt, Int.not_le, Bool.not_eq_true, Bool.not_eq_false] at h16
      refine AW.skip ?_
      exact CutP.go ⟨_, trivial, Slots.eq ⟨(by first | rfl | exact i64_int (by omega) (by omega) (by omega) | assumption), (by first | rfl | exact i64_int (by omega) (by omega) (by omega) | assumption), (by first | rfl | exact i64_int (by omega) (by omega) (by omega) | assumption), (by first | rfl | exact i64_int (by omega) (by omega) (by omega) | assumption), (by first | rfl | exact i64_int (by omega) (by omega) (by omega) | assumption), (by first | rfl | exact i64_int (by omega) (by omega) (by omega) | assumption), (by first | rfl | exact i64_int (by omega) (by omega) (by omega) | assumption), (by first | rfl | exact i64_int (by omega) (by omega) (by omega) | assumption), (by first | rfl | exact i64_int (by omega) (by omega) (by omega) | assumption), (by first | rfl | exact i64_int (by omega) (by omega) (by omega) | assumption), (by first | rfl | exact i64_int (by omega) (by omega) (by omega) | assumption), (by first | rfl | exact i64_int (by omega) (by omega) (by omega) | assumption),  trivial⟩, hS69⟩
  rintro _ Hc70 ⟨_, _, rfl, hSc70⟩
  try clear hS69
  refine AW.seq ?_
  refine AW.region ?_
  refine OpsW.q rfl (q_move (v := .pointer _) rfl) ?_
  refine OpsW.q rfl (o_call rfl Try.func8 rfl rfl (Marks_x hSc70 (by first | exact at0 | exact at1 | exact at2 | exact at3))) ?_
  refine OpsW.q rfl (q_move (v := .tuple _) rfl) ?_
  refine OpsW.q rfl (q_extract (v := .int _ _) rfl rfl) ?_
  refine OpsW.q rfl (q_extract (v := .int _ _) rfl rfl) ?_
  refine OpsW.q rfl (q_assign (v := .int _ _) rfl) ?_
  refine OpsW.q rfl (q_assign (v := .int _ _) rfl) ?_
  refine OpsW.nil ?_
  refine SeqP.go ?_
  refine AW.seq ?_
  refine AW.seq ?_
  refine AW.region ?_
  refine OpsW.q rfl (q_move (v := .int _ _) rfl) ?_
  refine OpsW.q rfl (q_move (v := .int _ _) rfl) ?_
  refine OpsW.q rfl (q_lss rfl rfl) ?_
  refine OpsW.qb rfl (q_move (v := .bool _) rfl) ?_
  intro b245 eb245
  refine OpsW.g rfl rfl rfl (fun hB => by simp only [Bool.and_eq_true, beq_iff_eq] at hB; obtain rfl := hB; exact (q_move (v := .int _ _) rfl)) ?_
  refine OpsW.g rfl rfl rfl (fun hB => by simp only [Bool.and_eq_true, beq_iff_eq] at hB; obtain rfl := hB; exact (q_move (v := .int _ _) rfl)) ?_
  refine OpsW.g rfl rfl rfl (fun hB => by simp only [Bool.and_eq_true, beq_iff_eq] at hB; obtain rfl := hB; exact (q_lss rfl rfl)) ?_
  refine OpsW.q rfl (q_or2 rfl rfl rfl) ?_
  refine OpsW.qb rfl (q_move (v := .bool _) rfl) ?_
  intro b250 eb250
  refine OpsW.g rfl rfl rfl (fun hB => by simp only [Bool.and_eq_true, beq_iff_eq] at hB; obtain rfl := hB; exact (q_move (v := .int _ _) rfl)) ?_
  refine OpsW.g rfl rfl rfl (fun hB => by simp only [Bool.and_eq_true, beq_iff_eq] at hB; obtain rfl := hB; exact (q_move (v := .int _ _) rfl)) ?_
  refine OpsW.g rfl rfl rfl (fun hB => by simp only [Bool.and_eq_true, beq_iff_eq] at hB; obtain rfl := hB; (try simp only [eb56, eb245, Bool.true_eq, Bool.false_eq, decide_eq_true_eq, Bool.and_eq_true, Bool.or_eq_true, Bool.or_eq_false_iff, Bool.not_eq_true', decide_eq_false_iff_not, Int.not_lt, Int.not_le] at eb250); exact (q_addI rfl rfl (by omega))) ?_
  refine OpsW.g rfl rfl rfl (fun hB => by simp only [Bool.and_eq_true, beq_iff_eq] at hB; obtain rfl := hB; exact (q_gtr rfl rfl)) ?_
  refine OpsW.q rfl (q_or2 rfl rfl rfl) ?_
  refine OpsW.qb rfl (q_move (v := .bool _) rfl) ?_
  intro b256 eb256
  refine OpsW.g rfl rfl rfl (fun hB => by simp only [Bool.and_eq_true, beq_iff_eq] at hB; obtain rfl := hB; exact (q_move (v := .int _ _) rfl)) ?_
  refine OpsW.g rfl rfl rfl (fun hB => by simp only [Bool.and_eq_true, beq_iff_eq] at hB; obtain rfl := hB; exact (q_move (v := .int _ _) rfl)) ?_
  refine OpsW.g rfl rfl rfl (fun hB => by simp only [Bool.and_eq_true, beq_iff_eq] at hB; obtain rfl := hB; exact (q_gtr rfl rfl)) ?_
  refine OpsW.q rfl (q_or2 rfl rfl rfl) ?_
  refine OpsW.nil ?_
  refine SeqP.go ?_
  refine AW.cond rfl (fun h17 => ?_) (fun h17 => ?_)
  ·
    exfalso
    try simp only [eb56, eb245, eb250, eb256, decide_eq_true_eq, decide_eq_false_iff_not, Bool.or_eq_true, Bool.and_eq_true, Bool.or_eq_false_iff, Bool.and_eq_false_imp, Bool.not_eq_true', Bool.not_eq_false', ne_eq, Decidable.not_not, Int.not_lt, Int.not_le, Bool.not_eq_true, Bool.not_eq_false] at h17
    have e1 := hO4.hak
    have e2 := hO4.hla
    have e3 := hO4.la1
    have e4 := hO4.li.ok.1
    simp_all <;> omega
  try simp only [eb56, eb245, eb250, eb256, decide_eq_true_eq, decide_eq_false_iff_not, Bool.or_eq_true, Bool.and_eq_true, Bool.or_eq_false_iff, Bool.and_eq_false_imp, Bool.not_eq_true', Bool.not_eq_false', ne_eq, Decidable.not_not, Int.not_lt, Int.not_le, Bool.not_eq_true, Bool.not_eq_false] at h17
  refine AW.skip ?_
  refine SeqP.go ?_
  refine AW.seq ?_
  refine AW.seq ?_
  refine AW.region ?_
  refine OpsW.q rfl (q_assign (v := .int _ _) rfl) ?_
  refine OpsW.nil ?_
  refine SeqP.go ?_
  refine AW.block ?_
  replace hSc70 := Sep.bring del1 hSc70
  replace hSc70 := Sep.bring del2 hSc70
  replace hSc70 := Sep.bring del2 hSc70
  refine AW.loop (fun m_ e_ H_ => ∃ (k : Nat) (m3 : List (Int × Value)) (e0 : Env), m_ = st4.l.length - k ∧ (Mok m3 st4 ∧ k ≤ st4.l.length) ∧ e_ = upds e0 [(0, .slice rops m0 c0), (1, vc), (2, vk), (7, .pointer (some ⟨b33, 0, none⟩)), (9, .pointer (some ⟨bs, 0, none⟩)), (11, nv2), (12, .map (some b51)), (13, .int .i64 (i : Int)), (24, .pointer (some ⟨b216, 0, none⟩)), (26, v226), (27, .int .i64 st4.ak), (28, .int .i64 st4.la), (29, .int .i64 (k : Int))] ∧ Sep H1 [.vec v226 46 2 st4.l.length (rowsV recC st4.l), .blk b51 (mpB (ents ((Value.int .i64)) m3)), spC b216 b33 ⟨st4, 1000, false⟩ (firmT f4)] H_) _ ⟨0, m2, _, rfl, ⟨hO4.mok, Nat.zero_le _⟩, Slots.eq ⟨(by first | rfl | exact i64_int (by omega) (by omega) (by omega) | assumption), (by first | rfl | exact i64_int (by omega) (by omega) (by omega) | assumption), (by first | rfl | exact i64_int (by omega) (by omega) (by omega) | assumption), (by first | rfl | exact i64_int (by omega) (by omega) (by omega) | assumption), (by first | rfl | exact i64_int (by omega) (by omega) (by omega) | assumption), (by first | rfl | exact i64_int (by omega) (by omega) (by omega) | assumption), (by first | rfl | exact i64_int (by omega) (by omega) (by omega) | assumption), (by first | rfl | exact i64_int (by omega) (by omega) (by omega) | assumption), (by first | rfl | exact i64_int (by omega) (by omega) (by omega) | assumption), (by first | rfl | exact i64_int (by omega) (by omega) (by omega) | assumption), (by first | rfl | exact i64_int (by omega) (by omega) (by omega) | assumption), (by first | rfl | exact i64_int (by omega) (by omega) (by omega) | assumption), (by first | rfl | exact i64_int (by omega) (by omega) (by omega) | assumption),  trivial⟩, hSc70⟩ ?_
  rintro m_ _ Hl2 ⟨k, m3, e0, rfl, ⟨hmk3, hk4⟩, rfl, hSl2⟩
  try clear hSc70
  refine AW.seq ?_
  refine AW.seq ?_
  refine AW.region ?_
  refine OpsW.q rfl (q_move (v := .int _ _) rfl) ?_
  refine OpsW.q rfl (q_move (v := v226) rfl) ?_
  refine OpsW.q rfl (q_lenVec Try.underlying31 rfl (hSl2.vec at0)) ?_
  refine OpsW.q rfl (q_lss rfl rfl) ?_
  refine OpsW.nil ?_
  refine SeqP.go ?_
  refine AW.cond2 rfl (fun h18 => ?_) (fun h18 => ?_)
  ·
    try simp only [eb56, eb245, eb250, eb256, decide_eq_true_eq, decide_eq_false_iff_not, Bool.or_eq_true, Bool.and_eq_true, Bool.or_eq_false_iff, Bool.and_eq_false_imp, Bool.not_eq_true', Bool.not_eq_false', ne_eq, Decidable.not_not, Int.not_lt, Int.not_le, Bool.not_eq_true, Bool.not_eq_false] at h18
    refine AW.exit ?_
    refine SeqP.exit ?_
    refine LoopP.exit ?_
    refine BlockP.here ?_
    refine SeqP.go ?_
    refine AW.seq ?_
    refine AW.region ?_
    refine OpsW.q rfl (q_move (v := .pointer _) rfl) ?_
    refine OpsW.q rfl (q_assign (v := .pointer _) rfl) ?_
    refine OpsW.nil ?_
    refine SeqP.go ?_
    refine AW.region ?_
    refine OpsW.q rfl (q_move (v := v226) rfl) ?_
    refine OpsW.q rfl (q_assign (v := v226) rfl) ?_
    refine OpsW.nil ?_
    refine BlockP.go ?_
    refine SeqP.go ?_
    refine AW.region ?_
    refine OpsW.q rfl (q_move (v := .int _ _) rfl) ?_
    refine OpsW.q rfl (q_addI rfl rfl (by omega)) ?_
    refine OpsW.q rfl (q_assign (v := .int _ _) rfl) ?_
    refine OpsW.nil ?_
    exact LoopP.go _ (by omega) ⟨i + 1, st4, f4, m3, b216, v226, _, rfl, ⟨hO4.li, hmk3, by omega⟩, Slots.eq ⟨(by first | rfl | exact i64_int (by omega) (by omega) (by omega) | assumption), (by first | rfl | exact i64_int (by omega) (by omega) (by omega) | assumption), (by first | rfl | exact i64_int (by omega) (by omega) (by omega) | assumption), (by first | rfl | exact i64_int (by omega) (by omega) (by omega) | assumption), (by first | rfl | exact i64_int (by omega) (by omega) (by omega) | assumption), (by first | rfl | exact i64_int (by omega) (by omega) (by omega) | assumption), (by first | rfl | exact i64_int (by omega) (by omega) (by omega) | assumption), (by first | rfl | exact i64_int (by omega) (by omega) (by omega) | assumption),  trivial⟩, (hSl2.weak hle1)⟩
  try simp only [eb56, eb245, eb250, eb256, decide_eq_true_eq, decide_eq_false_iff_not, Bool.or_eq_true, Bool.and_eq_true, Bool.or_eq_false_iff, Bool.and_eq_false_imp, Bool.not_eq_true', Bool.not_eq_false', ne_eq, Decidable.not_not, Int.not_lt, Int.not_le, Bool.not_eq_true, Bool.not_eq_false] at h18
  have hkl4 : k < st4.l.length := by omega
  obtain ⟨r, hr⟩ : ∃ r, st4.l[k]? = some r := ⟨st4.l[k], List.getElem?_eq_getElem hkl4⟩
  have hsq := sp_seq hO4.li.ok (List.mem_of_getElem? hr)
  refine AW.skip ?_
  refine SeqP.go ?_
  refine AW.seq ?_
  refine AW.block ?_
  refine AW.seq ?_
  rcases hmk3.2 r (List.mem_of_getElem? hr) with hg | hg
  ·
    refine AW.region ?_
    refine OpsW.q rfl (q_move (v := .map _) rfl) ?_
    refine OpsW.q rfl (q_move (v := v226) rfl) ?_
    refine OpsW.q rfl (q_move (v := .int _ _) rfl) ?_
    refine OpsW.q rfl (q_indexV (hSl2.vec at0) Try.underlying31 (by kernel_rfl) rfl rfl (by first | omega | decide) (by first | omega | decide)) ?_
    refine OpsW.q rfl (q_fieldV (s2 := 0) (hSl2.vec at0) (by omega) Try.underlying46 rfl (by kernel_rfl) rfl) ?_
    refine OpsW.q rfl (q_loadV (hSl2.vec at0) (by kernel_rfl) rfl (rowsV_get recC_len hr rfl)) ?_
    refine OpsW.q rfl (q_lookupOk (z := S []) Try.underlying43 (key_i64 Try.underlying3) (by kernel_rfl) rfl rfl (hSl2.blk at1)) ?_
    rw [hg]
    refine OpsW.q rfl (q_move (v := .tuple _) rfl) ?_
    refine OpsW.q rfl (q_extract (v := S _) rfl rfl) ?_
    refine OpsW.q rfl (q_extract (v := .bool _) rfl rfl) ?_
    refine OpsW.q rfl (q_assign (v := S _) rfl) ?_
    refine OpsW.q rfl (q_assign (v := .bool _) rfl) ?_
    refine OpsW.nil ?_
    refine SeqP.go ?_
    refine AW.seq ?_
    refine AW.seq ?_
    refine AW.region ?_
    refine OpsW.q rfl (q_move (v := .bool _) rfl) ?_
    refine OpsW.q rfl (q_move (v := .bool false) rfl) ?_
    refine OpsW.p rfl rfl ?_
    refine OpsW.p rfl rfl ?_
    refine OpsW.p rfl rfl ?_
    refine OpsW.p rfl rfl ?_
    refine OpsW.p rfl rfl ?_
    refine OpsW.p rfl rfl ?_
    refine OpsW.p rfl rfl ?_
    refine OpsW.q rfl (q_and2 (B := false) rfl rfl rfl) ?_
    refine OpsW.qb rfl (q_move (v := .bool _) rfl) ?_
    intro b287 eb287
    refine OpsW.g rfl rfl rfl (fun hB => by simp only [Bool.and_eq_true, beq_iff_eq] at hB; obtain rfl := hB; exact (q_move (v := v226) rfl)) ?_
    refine OpsW.g rfl rfl rfl (fun hB => by simp only [Bool.and_eq_true, beq_iff_eq] at hB; obtain rfl := hB; exact (q_move (v := .int _ _) rfl)) ?_
    refine OpsW.g rfl rfl rfl (fun hB => by simp only [Bool.and_eq_true, beq_iff_eq] at hB; obtain rfl := hB; (try simp only [eb56, eb245, eb250, eb256, Bool.true_eq, Bool.false_eq, decide_eq_true_eq, Bool.and_eq_true, Bool.or_eq_true, Bool.or_eq_false_iff, Bool.not_eq_true', decide_eq_false_iff_not, Int.not_lt, Int.not_le] at eb287); exact (q_indexV (hSl2.vec at0) Try.underlying31 (by kernel_rfl) rfl rfl (by first | omega | decide) (by first | omega | decide))) ?_
    refine OpsW.g rfl rfl rfl (fun hB => by simp only [Bool.and_eq_true, beq_iff_eq] at hB; obtain rfl := hB; (try simp only [eb56, eb245, eb250, eb256, Bool.true_eq, Bool.false_eq, decide_eq_true_eq, Bool.and_eq_true, Bool.or_eq_true, Bool.or_eq_false_iff, Bool.not_eq_true', decide_eq_false_iff_not, Int.not_lt, Int.not_le] at eb287); exact (q_fieldV (s2 := 0) (hSl2.vec at0) (by omega) Try.underlying46 rfl (by kernel_rfl) rfl)) ?_
    refine OpsW.g rfl rfl rfl (fun hB => by simp only [Bool.and_eq_true, beq_iff_eq] at hB; obtain rfl := hB; exact (q_loadV (hSl2.vec at0) (by kernel_rfl) rfl (rowsV_get recC_len hr rfl))) ?_
    refine OpsW.g rfl rfl rfl (fun hB => by simp only [Bool.and_eq_true, beq_iff_eq] at hB; obtain rfl := hB; exact (q_move (v := .int _ _) rfl)) ?_
    refine OpsW.g rfl rfl rfl (fun hB => by simp only [Bool.and_eq_true, beq_iff_eq] at hB; obtain rfl := hB; exact (q_leq rfl rfl)) ?_
    refine OpsW.q rfl (q_or2 rfl rfl rfl) ?_
    refine OpsW.qb rfl (q_move (v := .bool _) rfl) ?_
    intro b296 eb296
    refine OpsW.g rfl rfl rfl (fun hB => by simp only [Bool.and_eq_true, beq_iff_eq] at hB; obtain rfl := hB; exact (q_move (v := v226) rfl)) ?_
    refine OpsW.g rfl rfl rfl (fun hB => by simp only [Bool.and_eq_true, beq_iff_eq] at hB; obtain rfl := hB; exact (q_move (v := .int _ _) rfl)) ?_
    refine OpsW.g rfl rfl rfl (fun hB => by simp only [Bool.and_eq_true, beq_iff_eq] at hB; obtain rfl := hB; (try simp only [eb56, eb245, eb250, eb256, eb287, Bool.true_eq, Bool.false_eq, decide_eq_true_eq, Bool.and_eq_true, Bool.or_eq_true, Bool.or_eq_false_iff, Bool.not_eq_true', decide_eq_false_iff_not, Int.not_lt, Int.not_le] at eb296); exact (q_indexV (hSl2.vec at0) Try.underlying31 (by kernel_rfl) rfl rfl (by first | omega | decide) (by first | omega | decide))) ?_
    refine OpsW.g rfl rfl rfl (fun hB => by simp only [Bool.and_eq_true, beq_iff_eq] at hB; obtain rfl := hB; (try simp only [eb56, eb245, eb250, eb256, eb287, Bool.true_eq, Bool.false_eq, decide_eq_true_eq, Bool.and_eq_true, Bool.or_eq_true, Bool.or_eq_false_iff, Bool.not_eq_true', decide_eq_false_iff_not, Int.not_lt, Int.not_le] at eb296); exact (q_fieldV (s2 := 0) (hSl2.vec at0) (by omega) Try.underlying46 rfl (by kernel_rfl) rfl)) ?_
    refine OpsW.g rfl rfl rfl (fun hB => by simp only [Bool.and_eq_true, beq_iff_eq] at hB; obtain rfl := hB; exact (q_loadV (hSl2.vec at0) (by kernel_rfl) rfl (rowsV_get recC_len hr rfl))) ?_
    refine OpsW.g rfl rfl rfl (fun hB => by simp only [Bool.and_eq_true, beq_iff_eq] at hB; obtain rfl := hB; exact (q_move (v := .int _ _) rfl)) ?_
    refine OpsW.g rfl rfl rfl (fun hB => by simp only [Bool.and_eq_true, beq_iff_eq] at hB; obtain rfl := hB; exact (q_gtr rfl rfl)) ?_
    refine OpsW.q rfl (q_or2 rfl rfl rfl) ?_
    refine OpsW.nil ?_
    refine SeqP.go ?_
    refine AW.cond rfl (fun h19 => ?_) (fun h19 => ?_)
    ·
      exfalso
      try simp only [eb56, eb245, eb250, eb256, eb287, eb296, decide_eq_true_eq, decide_eq_false_iff_not, Bool.or_eq_true, Bool.and_eq_true, Bool.or_eq_false_iff, Bool.and_eq_false_imp, Bool.not_eq_true', Bool.not_eq_false', ne_eq, Decidable.not_not, Int.not_lt, Int.not_le, Bool.not_eq_true, Bool.not_eq_false] at h19
      simp_all <;> omega
    try simp only [eb56, eb245, eb250, eb256, eb287, eb296, decide_eq_true_eq, decide_eq_false_iff_not, Bool.or_eq_true, Bool.and_eq_true, Bool.or_eq_false_iff, Bool.and_eq_false_imp, Bool.not_eq_true', Bool.not_eq_false', ne_eq, Decidable.not_not, Int.not_lt, Int.not_le, Bool.not_eq_true, Bool.not_eq_false] at h19
    refine AW.skip ?_
    refine SeqP.go ?_
    refine AW.drawK [] 11 rfl (by kernel_rfl) ?_
    refine SeqK.q rfl (q_move (v := .map _) rfl) ?_
    refine SeqK.q rfl (q_move (v := v226) rfl) ?_
    refine SeqK.q rfl (q_move (v := .int _ _) rfl) ?_
    refine SeqK.q rfl (q_indexV (hSl2.vec at0) Try.underlying31 (by kernel_rfl) rfl rfl (by first | omega | decide) (by first | omega | decide)) ?_
    refine SeqK.q rfl (q_fieldV (s2 := 0) (hSl2.vec at0) (by omega) Try.underlying46 rfl (by kernel_rfl) rfl) ?_
    refine SeqK.q rfl (q_loadV (hSl2.vec at0) (by kernel_rfl) rfl (rowsV_get recC_len hr rfl)) ?_
    refine SeqK.q rfl (q_move (v := v226) rfl) ?_
    refine SeqK.q rfl (q_move (v := .int _ _) rfl) ?_
    refine SeqK.q rfl (q_indexV (hSl2.vec at0) Try.underlying31 (by kernel_rfl) rfl rfl (by first | omega | decide) (by first | omega | decide)) ?_
    refine SeqK.q rfl (q_fieldV (s2 := 0) (hSl2.vec at0) (by omega) Try.underlying46 rfl (by kernel_rfl) rfl) ?_
    refine SeqK.q rfl (q_loadV (hSl2.vec at0) (by kernel_rfl) rfl (rowsV_get recC_len hr rfl)) ?_
    refine SeqK.done ?_
    refine OpsW.ms (s_mapUpdate (u := S _) hSl2 at1 Try.underlying43 (key_i64 Try.underlying3) rfl rfl rfl) ?_
    rintro _ H71 ⟨rfl, hS71⟩
    clear hSl2
    refine OpsW.nil ?_
    refine BlockP.go ?_
    refine SeqP.go ?_
    refine AW.region ?_
    refine OpsW.q rfl (q_move (v := .int _ _) rfl) ?_
    refine OpsW.q rfl (q_addI rfl rfl (by omega)) ?_
    refine OpsW.q rfl (q_assign (v := .int _ _) rfl) ?_
    refine OpsW.nil ?_
    exact LoopP.go _ (by omega) ⟨k + 1, _, _, rfl, ⟨mok_again hmk3 hO4.li.ok (List.mem_of_getElem? hr), by omega⟩, Slots.eq ⟨(by first | rfl | exact i64_int (by omega) (by omega) (by omega) | assumption), (by first | rfl | exact i64_int (by omega) (by omega) (by omega) | assumption), (by first | rfl | exact i64_int (by omega) (by omega) (by omega) | assumption), (by first | rfl | exact i64_int (by omega) (by omega) (by omega) | assumption), (by first | rfl | exact i64_int (by omega) (by omega) (by omega) | assumption), (by first | rfl | exact i64_int (by omega) (by omega) (by omega) | assumption), (by first | rfl | exact i64_int (by omega) (by omega) (by omega) | assumption), (by first | rfl | exact i64_int (by omega) (by omega) (by omega) | assumption), (by first | rfl | exact i64_int (by omega) (by omega) (by omega) | assumption), (by first | rfl | exact i64_int (by omega) (by omega) (by omega) | assumption), (by first | rfl | exact i64_int (by omega) (by omega) (by omega) | assumption), (by first | rfl | exact i64_int (by omega) (by omega) (by omega) | assumption), (by first | rfl | exact i64_int (by omega) (by omega) (by omega) | assumption),  trivial⟩, hS71⟩
  ·
    refine AW.region ?_
    refine OpsW.q rfl (q_move (v := .map _) rfl) ?_
    refine OpsW.q rfl (q_move (v := v226) rfl) ?_
    refine OpsW.q rfl (q_move (v := .int _ _) rfl) ?_
    refine OpsW.q rfl (q_indexV (hSl2.vec at0) Try.underlying31 (by kernel_rfl) rfl rfl (by first | omega | decide) (by first | omega | decide)) ?_
    refine OpsW.q rfl (q_fieldV (s2 := 0) (hSl2.vec at0) (by omega) Try.underlying46 rfl (by kernel_rfl) rfl) ?_
    refine OpsW.q rfl (q_loadV (hSl2.vec at0) (by kernel_rfl) rfl (rowsV_get recC_len hr rfl)) ?_
    refine OpsW.q rfl (q_lookupOk (z := S []) Try.underlying43 (key_i64 Try.underlying3) (by kernel_rfl) rfl rfl (hSl2.blk at1)) ?_
    rw [hg]
    refine OpsW.q rfl (q_move (v := .tuple _) rfl) ?_
    refine OpsW.q rfl (q_extract (v := S _) rfl rfl) ?_
    refine OpsW.q rfl (q_extract (v := .bool _) rfl rfl) ?_
    refine OpsW.q rfl (q_assign (v := S _) rfl) ?_
    refine OpsW.q rfl (q_assign (v := .bool _) rfl) ?_
    refine OpsW.nil ?_
    refine SeqP.go ?_
    refine AW.seq ?_
    refine AW.seq ?_
    refine AW.region ?_
    refine OpsW.q rfl (q_move (v := .bool _) rfl) ?_
    refine OpsW.q rfl (q_move (v := .bool true) rfl) ?_
    refine OpsW.qw rfl rfl (q_move (v := S _) rfl) ?_
    refine OpsW.qw rfl rfl (q_move (v := v226) rfl) ?_
    refine OpsW.qw rfl rfl (q_move (v := .int _ _) rfl) ?_
    refine OpsW.qw rfl rfl (q_indexV (hSl2.vec at0) Try.underlying31 (by kernel_rfl) rfl rfl (by first | omega | decide) (by first | omega | decide)) ?_
    refine OpsW.qw rfl rfl (q_fieldV (s2 := 0) (hSl2.vec at0) (by omega) Try.underlying46 rfl (by kernel_rfl) rfl) ?_
    refine OpsW.qw rfl rfl (q_loadV (hSl2.vec at0) (by kernel_rfl) rfl (rowsV_get recC_len hr rfl)) ?_
    refine OpsW.qw rfl rfl (q_neS rfl rfl) ?_
    refine OpsW.q rfl (q_and2 rfl rfl rfl) ?_
    refine OpsW.qb rfl (q_move (v := .bool _) rfl) ?_
    intro b287 eb287
    refine OpsW.g rfl rfl rfl (fun hB => by simp only [Bool.and_eq_true, beq_iff_eq] at hB; obtain rfl := hB; exact (q_move (v := v226) rfl)) ?_
    refine OpsW.g rfl rfl rfl (fun hB => by simp only [Bool.and_eq_true, beq_iff_eq] at hB; obtain rfl := hB; exact (q_move (v := .int _ _) rfl)) ?_
    refine OpsW.g rfl rfl rfl (fun hB => by simp only [Bool.and_eq_true, beq_iff_eq] at hB; obtain rfl := hB; (try simp only [eb56, eb245, eb250, eb256, Bool.true_eq, Bool.false_eq, decide_eq_true_eq, Bool.and_eq_true, Bool.or_eq_true, Bool.or_eq_false_iff, Bool.not_eq_true', decide_eq_false_iff_not, Int.not_lt, Int.not_le] at eb287); exact (q_indexV (hSl2.vec at0) Try.underlying31 (by kernel_rfl) rfl rfl (by first | omega | decide) (by first | omega | decide))) ?_
    refine OpsW.g rfl rfl rfl (fun hB => by simp only [Bool.and_eq_true, beq_iff_eq] at hB; obtain rfl := hB; (try simp only [eb56, eb245, eb250, eb256, Bool.true_eq, Bool.false_eq, decide_eq_true_eq, Bool.and_eq_true, Bool.or_eq_true, Bool.or_eq_false_iff, Bool.not_eq_true', decide_eq_false_iff_not, Int.not_lt, Int.not_le] at eb287); exact (q_fieldV (s2 := 0) (hSl2.vec at0) (by omega) Try.underlying46 rfl (by kernel_rfl) rfl)) ?_
    refine OpsW.g rfl rfl rfl (fun hB => by simp only [Bool.and_eq_true, beq_iff_eq] at hB; obtain rfl := hB; exact (q_loadV (hSl2.vec at0) (by kernel_rfl) rfl (rowsV_get recC_len hr rfl))) ?_
    refine OpsW.g rfl rfl rfl (fun hB => by simp only [Bool.and_eq_true, beq_iff_eq] at hB; obtain rfl := hB; exact (q_move (v := .int _ _) rfl)) ?_
    refine OpsW.g rfl rfl rfl (fun hB => by simp only [Bool.and_eq_true, beq_iff_eq] at hB; obtain rfl := hB; exact (q_leq rfl rfl)) ?_
    refine OpsW.q rfl (q_or2 rfl rfl rfl) ?_
    refine OpsW.qb rfl (q_move (v := .bool _) rfl) ?_
    intro b296 eb296
    refine OpsW.g rfl rfl rfl (fun hB => by simp only [Bool.and_eq_true, beq_iff_eq] at hB; obtain rfl := hB; exact (q_move (v := v226) rfl)) ?_
    refine OpsW.g rfl rfl rfl (fun hB => by simp only [Bool.and_eq_true, beq_iff_eq] at hB; obtain rfl := hB; exact (q_move (v := .int _ _) rfl)) ?_
    refine OpsW.g rfl rfl rfl (fun hB => by simp only [Bool.and_eq_true, beq_iff_eq] at hB; obtain rfl := hB; (try simp only [eb56, eb245, eb250, eb256, eb287, Bool.true_eq, Bool.false_eq, decide_eq_true_eq, Bool.and_eq_true, Bool.or_eq_true, Bool.or_eq_false_iff, Bool.not_eq_true', decide_eq_false_iff_not, Int.not_lt, Int.not_le] at eb296); exact (q_indexV (hSl2.vec at0) Try.underlying31 (by kernel_rfl) rfl rfl (by first | omega | decide) (by first | omega | decide))) ?_
    refine OpsW.g rfl rfl rfl (fun hB => by simp only [Bool.and_eq_true, beq_iff_eq] at hB; obtain rfl := hB; (try simp only [eb56, eb245, eb250, eb256, eb287, Bool.true_eq, Bool.false_eq, decide_eq_true_eq, Bool.and_eq_true, Bool.or_eq_true, Bool.or_eq_false_iff, Bool.not_eq_true', decide_eq_false_iff_not, Int.not_lt, Int.not_le] at eb296); exact (q_fieldV (s2 := 0) (hSl2.vec at0) (by omega) Try.underlying46 rfl (by kernel_rfl) rfl)) ?_
    refine OpsW.g rfl rfl rfl (fun hB => by simp only [Bool.and_eq_true, beq_iff_eq] at hB; obtain rfl := hB; exact (q_loadV (hSl2.vec at0) (by kernel_rfl) rfl (rowsV_get recC_len hr rfl))) ?_
    refine OpsW.g rfl rfl rfl (fun hB => by simp only [Bool.and_eq_true, beq_iff_eq] at hB; obtain rfl := hB; exact (q_move (v := .int _ _) rfl)) ?_
    refine OpsW.g rfl rfl rfl (fun hB => by simp only [Bool.and_eq_true, beq_iff_eq] at hB; obtain rfl := hB; exact (q_gtr rfl rfl)) ?_
    refine OpsW.q rfl (q_or2 rfl rfl rfl) ?_
    refine OpsW.nil ?_
    refine SeqP.go ?_
    refine AW.cond rfl (fun h19 => ?_) (fun h19 => ?_)
    ·
      exfalso
      try simp only [eb56, eb245, eb250, eb256, eb287, eb296, decide_eq_true_eq, decide_eq_false_iff_not, Bool.or_eq_true, Bool.and_eq_true, Bool.or_eq_false_iff, Bool.and_eq_false_imp, Bool.not_eq_true', Bool.not_eq_false', ne_eq, Decidable.not_not, Int.not_lt, Int.not_le, Bool.not_eq_true, Bool.not_eq_false] at h19
      simp_all <;> omega
    try simp only [eb56, eb245, eb250, eb256, eb287, eb296, decide_eq_true_eq, decide_eq_false_iff_not, Bool.or_eq_true, Bool.and_eq_true, Bool.or_eq_false_iff, Bool.and_eq_false_imp, Bool.not_eq_true', Bool.not_eq_false', ne_eq, Decidable.not_not, Int.not_lt, Int.not_le, Bool.not_eq_true, Bool.not_eq_false] at h19
    refine AW.skip ?_
    refine SeqP.go ?_
    refine AW.drawK [] 11 rfl (by kernel_rfl) ?_
    refine SeqK.q rfl (q_move (v := .map _) rfl) ?_
    refine SeqK.q rfl (q_move (v := v226) rfl) ?_
    refine SeqK.q rfl (q_move (v := .int _ _) rfl) ?_
    refine SeqK.q rfl (q_indexV (hSl2.vec at0) Try.underlying31 (by kernel_rfl) rfl rfl (by first | omega | decide) (by first | omega | decide)) ?_
    refine SeqK.q rfl (q_fieldV (s2 := 0) (hSl2.vec at0) (by omega) Try.underlying46 rfl (by kernel_rfl) rfl) ?_
    refine SeqK.q rfl (q_loadV (hSl2.vec at0) (by kernel_rfl) rfl (rowsV_get recC_len hr rfl)) ?_
    refine SeqK.q rfl (q_move (v := v226) rfl) ?_
    refine SeqK.q rfl (q_move (v := .int _ _) rfl) ?_
    refine SeqK.q rfl (q_indexV (hSl2.vec at0) Try.underlying31 (by kernel_rfl) rfl rfl (by first | omega | decide) (by first | omega | decide)) ?_
    refine SeqK.q rfl (q_fieldV (s2 := 0) (hSl2.vec at0) (by omega) Try.underlying46 rfl (by kernel_rfl) rfl) ?_
    refine SeqK.q rfl (q_loadV (hSl2.vec at0) (by kernel_rfl) rfl (rowsV_get recC_len hr rfl)) ?_
    refine SeqK.done ?_
    refine OpsW.ms (s_mapUpdate (u := S _) hSl2 at1 Try.underlying43 (key_i64 Try.underlying3) rfl rfl rfl) ?_
    rintro _ H72 ⟨rfl, hS72⟩
    clear hSl2
    refine OpsW.nil ?_
    refine BlockP.go ?_
    refine SeqP.go ?_
    refine AW.region ?_
    refine OpsW.q rfl (q_move (v := .int _ _) rfl) ?_
    refine OpsW.q rfl (q_addI rfl rfl (by omega)) ?_
    refine OpsW.q rfl (q_assign (v := .int _ _) rfl) ?_
    refine OpsW.nil ?_
    exact LoopP.go _ (by omega) ⟨k + 1, _, _, rfl, ⟨mok_again hmk3 hO4.li.ok (List.mem_of_getElem? hr), by omega⟩, Slots.eq ⟨(by first | rfl | exact i64_int (by omega) (by omega) (by omega) | assumption), (by first | rfl | exact i64_int (by omega) (by omega) (by omega) | assumption), (by first | rfl | exact i64_int (by omega) (by omega) (by omega) | assumption), (by first | rfl | exact i64_int (by omega) (by omega) (by omega) | assumption), (by first | rfl | exact i64_int (by omega) (by omega) (by omega) | assumption), (by first | rfl | exact i64_int (by omega) (by omega) (by omega) | assumption), (by first | rfl | exact i64_int (by omega) (by omega) (by omega) | assumption), (by first | rfl | exact i64_int (by omega) (by omega) (by omega) | assumption), (by first | rfl | exact i64_int (by omega) (by omega) (by omega) | assumption), (by first | rfl | exact i64_int (by omega) (by omega) (by omega) | assumption), (by first | rfl | exact i64_int (by omega) (by omega) (by omega) | assumption), (by first | rfl | exact i64_int (by omega) (by omega) (by omega) | assumption), (by first | rfl | exact i64_int (by omega) (by omega) (by omega) | assumption),  trivial⟩, hS72⟩
end
end Go.Proofs.Ytpaombkodoofgaa

