/-
  The walks of the statements of chapter 24: a mark is how many messages a sender has.
-/
import Derived.Test.YtfiojlmccflplaaDQ
import Derived.Test.YtfiojlmccflplaaProg
import Derived.Test.YtfiojlmccflplaaWa
import Derived.Test.YtfiojlmccflplaaDO
namespace Go.Proofs.Ytfiojlmccflplaa
open Go Go.RowKit D
set_option linter.unusedVariables false
set_option linter.unusedSimpArgs false
set_option maxRecDepth 100000
set_option maxHeartbeats 2000000
section
variable {w0 : World} {H : Hp} {H0 : Hp}

structure OpT where
  ask : Int
  who : Int
  n : Int
  dat : List UInt8
  sp : Bool
def opCells5 (o : OpT) : List Value := [.int .i64 o.ask, .int .i64 o.who, .int .i64 o.n, S o.dat, .bool o.sp]
structure MarksI (i : Nat) (x : StF) (t : TapeS) (m : Vals) : Prop where
  ok : StOk x.st.L
  hh : x.st.h.length = 32
  dd : x.dd = false
  len : x.st.L.length ≤ i
  lim : t.lim = 4194304
  td : t.dd = false
  ar : t.ar = 0
  tl : t.l = []
  tf : t.f.length ≤ i * 8300
  mg : ∀ w, (mgt m w).getD (.int .i64 0) = .int .i64 (mkP x.st.L w)
theorem MarksI.tk {i : Nat} {x : StF} {t : TapeS} {m : Vals} (h : MarksI i x t m) (hi : i ≤ 60) : TapeOk t := by
  have h1 := h.lim; have h2 := h.ar; have h3 := h.tl; have h4 := h.tf
  refine ⟨by omega, ?_, by omega, by omega⟩
  rw [h3, List.length_nil]; omega
theorem marks_next {i : Nat} {x : StF} {t : TapeS} {m : Vals} (h : MarksI i x t m) : MarksI (i + 1) x t m := ⟨h.ok, h.hh, h.dd, by have := h.len; omega, h.lim, h.td, h.ar, h.tl, Nat.le_trans h.tf (Nat.mul_le_mul_right _ (Nat.le_succ i)), h.mg⟩
theorem marks_new : MarksI 0 ⟨st0, false⟩ ⟨4194304, [], [], 0, false⟩ [] := ⟨stok0, rfl, rfl, Nat.le_refl _, rfl, rfl, rfl, rfl, by simp, fun w => by rw [show (⟨st0, false⟩ : StF).st.L = [] from rfl, mkP_nil]; rfl⟩
theorem lay_freeS {x : StF} {t : TapeS} {who d : List UInt8} {n : Int} (hw : who.length = 32) (hd : t.dd = false) (ha : t.ar = 0) (htl : t.l = []) (hf : (t.f.length : Int) + 72 + (d.length : Int) ≤ t.lim) :
    layS t x who n d = (0, { x with st := ⟨x.st.L ++ [⟨who, n, d⟩], nxS x.st.h (bodyS who n d)⟩ }, ⟨t.lim, t.f ++ frS x.st.h (bodyS who n d), [], 0, false⟩) := by
  obtain ⟨tm, tf, tl, ta, td⟩ := t
  simp only at hd ha htl hf
  subst hd; subst ha; subst htl
  have hl : (frS x.st.h (bodyS who n d)).length = 72 + d.length := by rw [frS_len, bodyS_len, hw]; omega
  have ha : appendP ⟨tm, tf, [], 0, false⟩ (frS x.st.h (bodyS who n d)) = (0, ⟨tm, tf, [] ++ frS x.st.h (bodyS who n d), 0, false⟩) := by
    rw [appendP_ok rfl (by show ((tf.length + 0 : Nat) : Int) + _ ≤ tm; rw [hl]; omega), actP_go (show ¬ (0 : Int) = 1 by decide)]; rfl
  have hs : syncP ⟨tm, tf, [] ++ frS x.st.h (bodyS who n d), 0, false⟩ = (0, ⟨tm, tf ++ frS x.st.h (bodyS who n d), [], 0, false⟩) := by
    rw [syncP_ok rfl (show ¬ (0 : Int) = 1 by decide)]; rfl
  rw [layS_ok (by rw [ha]) (by rw [ha, hs]), ha]
  show (0, _, (syncP _).2) = _
  rw [hs]
section
variable {i : Nat} {x : StF} {t : TapeS} {m : Vals} {k n : Int} {d : List UInt8}
theorem marks_arg (h : MarksI i x t m) (hn : n < 1) : (addS t x (sndB k) n d).1 = 1 ∧ MarksI (i + 1) (addS t x (sndB k) n d).2.1 (addS t x (sndB k) n d).2.2 m := by
  rw [addS_arg h.dd (by unfold addBad; exact .inr (.inl hn))]
  exact ⟨rfl, marks_next h⟩
theorem marks_seq (h : MarksI i x t m) (hn : ¬ n < 1) (hd : 1 ≤ d.length ∧ d.length ≤ 8192) (hs : mkP x.st.L (sndB k) < n - 1) : (addS t x (sndB k) n d).1 = 44 ∧ MarksI (i + 1) (addS t x (sndB k) n d).2.1 (addS t x (sndB k) n d).2.2 m := by
  rw [addS_seq h.dd (aw_bad (by omega) (fun e => by subst e; simp at hd) hd.2) (by omega)]
  exact ⟨rfl, marks_next h⟩
theorem marks_old (h : MarksI i x t m) (hn : ¬ n < 1) (hd : 1 ≤ d.length ∧ d.length ≤ 8192) (hs : n - 1 < mkP x.st.L (sndB k)) : (addS t x (sndB k) n d).1 = 0 ∧ MarksI (i + 1) (addS t x (sndB k) n d).2.1 (addS t x (sndB k) n d).2.2 m := by
  rw [addS_old h.dd (aw_bad (by omega) (fun e => by subst e; simp at hd) hd.2) (by omega)]
  exact ⟨rfl, marks_next h⟩
theorem mkP_snoc (L : OneL) (o : OneS) (w : List UInt8) : mkP (L ++ [o]) w = if o.who = w then mkP L w + 1 else mkP L w := by
  unfold mkP
  rw [ofP_snoc]
  split
  · rw [List.length_append]; rfl
  · rfl
theorem marks_yes (h : MarksI i x t m) (hi : i ≤ 60) (hn : ¬ n < 1) (hd : 1 ≤ d.length ∧ d.length ≤ 8192) (hs : n - 1 = mkP x.st.L (sndB k)) : (addS t x (sndB k) n d).1 = 0 ∧ MarksI (i + 1) (addS t x (sndB k) n d).2.1 (addS t x (sndB k) n d).2.2 (mst m (sndB k) (.int .i64 n)) := by
  obtain ⟨h1, h2, h3, h4, h5, h6, h7, h8, h9, h10⟩ := id h
  have hq : n = mkP x.st.L (sndB k) + 1 := by omega
  rw [addS_go h3 (aw_bad (by omega) (fun e => by subst e; simp at hd) hd.2) hq, lay_freeS (sndB_len k) h6 h7 h8 (by omega)]
  refine ⟨rfl, stok_snoc h1 hq, nxS_len _ _, h3, by show (x.st.L ++ [_]).length ≤ _; rw [List.length_append]; simp; omega, h5, rfl, rfl, rfl, ?_, ?_⟩
  · show (t.f ++ frS _ _).length ≤ _
    rw [List.length_append, frS_len, bodyS_len, sndB_len]; omega
  · intro w
    show _ = Value.int .i64 (mkP (x.st.L ++ [_]) w)
    rw [mkP_snoc]
    by_cases e : sndB k = w
    · rw [if_pos e, ← e, mgt_mst_self, ← hq]; rfl
    · rw [if_neg e, mgt_mst_ne m (fun e2 => e e2.symm), h10]
theorem MarksI.ofl (h : MarksI i x t m) (w : List UInt8) : ((ofP x.st.L w).length : Int) = mkP x.st.L w := rfl
end

theorem marks_con {rops : Option Addr} {q c : Nat} (o : Nat → OpT) (hrops : RowsAt w0 rops q 5 fun j => opCells5 (o j)) (hm : q ≤ maxLen) (hob : ∀ j, j < q → -9223372036854775808 ≤ (o j).n ∧ (o j).n ≤ 9223372036854775807) : Con Try.prog w0 5 #[.slice rops q c] H (fun v H' => v = .bool true ∧ H' = H) := by
  have hS0 : Sep H [] H := Sep.refl
  unfold maxLen at hm
  refine Con.intro Try.func5 rfl rfl ?_
  refine AW.seq ?_
  refine AW.region ?_
  refine OpsW.q rfl (q_assign (v := .bool _) rfl) ?_
  refine OpsW.nil ?_
  refine SeqP.go ?_
  refine AW.seq ?_
  refine AW.region ?_
  refine OpsW.m rfl (o_call rfl Try.func14 rfl rfl (New_e (n := 4194304) (by decide))) ?_
  rintro _ H1 ⟨b14, rfl, hR1⟩
  have hS1 := hS0.join hR1
  simp only [List.cons_append, List.nil_append] at hS1
  clear hR1 hS0
  refine OpsW.q rfl (q_move (v := .tuple _) rfl) ?_
  refine OpsW.q rfl (q_extract (v := .pointer _) rfl rfl) ?_
  refine OpsW.q rfl (q_extract (v := .int _ _) rfl rfl) ?_
  refine OpsW.q rfl (q_assign (v := .pointer _) rfl) ?_
  refine OpsW.q rfl (q_assign (v := .int _ _) rfl) ?_
  refine OpsW.nil ?_
  refine SeqP.go ?_
  refine AW.seq ?_
  refine AW.region ?_
  refine OpsW.q rfl (q_move (v := .pointer _) rfl) ?_
  obtain ⟨Hf2, le2, hA2, hB2⟩ := hS1.framed at0
  refine OpsW.m rfl (o_call rfl Try.func15 rfl rfl (Open_e hA2 (stok_new (by decide)) (openS_new (by decide)).1 (openS_new (by decide)).2)) ?_
  rintro _ H2 ⟨b19, rfl, hR2⟩
  have hS2 := hB2 _ _ hR2
  clear hR2 hB2 hA2
  clear hS1
  refine OpsW.q rfl (q_move (v := .tuple _) rfl) ?_
  refine OpsW.q rfl (q_extract (v := .pointer _) rfl rfl) ?_
  refine OpsW.q rfl (q_extract (v := .int _ _) rfl rfl) ?_
  refine OpsW.q rfl (q_assign (v := .pointer _) rfl) ?_
  refine OpsW.q rfl (q_assign (v := .int _ _) rfl) ?_
  refine OpsW.nil ?_
  refine SeqP.go ?_
  refine AW.seq ?_
  refine AW.seq ?_
  refine AW.region ?_
  refine OpsW.q rfl (q_move (v := .int _ _) rfl) ?_
  refine OpsW.q rfl (q_neq rfl rfl) ?_
  refine OpsW.q rfl (q_move (v := .bool false) rfl) ?_
  refine OpsW.qw rfl rfl (q_move (v := .int _ _) rfl) ?_
  refine OpsW.qw rfl rfl (q_neq rfl rfl) ?_
  refine OpsW.q rfl (q_or2 rfl rfl rfl) ?_
  refine OpsW.q rfl (q_move (v := .bool false) rfl) ?_
  refine OpsW.qw rfl rfl (q_move (v := .pointer _) rfl) ?_
  refine OpsW.qw rfl rfl (q_eqlP Try.underlying35 rfl rfl) ?_
  refine OpsW.q rfl (q_or2 rfl rfl rfl) ?_
  refine OpsW.nil ?_
  refine SeqP.go ?_
  refine AW.cond rfl (fun h0 => ?_) (fun h0 => ?_)
  ·
    exfalso
    try simp only [decide_eq_true_eq, decide_eq_false_iff_not, Bool.or_eq_true, Bool.and_eq_true, Bool.or_eq_false_iff, Bool.and_eq_false_imp, Bool.not_eq_true', Bool.not_eq_false', ne_eq, Decidable.not_not, Int.not_lt, Int.not_le, Bool.not_eq_true, Bool.not_eq_false] at h0
    first | contradiction | (simp at *; done) | simp_all
  try simp only [decide_eq_true_eq, decide_eq_false_iff_not, Bool.or_eq_true, Bool.and_eq_true, Bool.or_eq_false_iff, Bool.and_eq_false_imp, Bool.not_eq_true', Bool.not_eq_false', ne_eq, Decidable.not_not, Int.not_lt, Int.not_le, Bool.not_eq_true, Bool.not_eq_false] at h0
  refine AW.skip ?_
  refine SeqP.go ?_
  refine AW.seq ?_
  refine AW.region ?_
  refine OpsW.m rfl (s_makeMap hS2) ?_
  rintro _ H3 ⟨b32, rfl, hS3⟩
  clear hS2
  refine OpsW.q rfl (q_assign (v := .map _) rfl) ?_
  refine OpsW.nil ?_
  refine SeqP.go ?_
  refine AW.seq ?_
  refine AW.seq ?_
  refine AW.region ?_
  refine OpsW.q rfl (q_assign (v := .int _ _) rfl) ?_
  refine OpsW.nil ?_
  refine SeqP.go ?_
  refine AW.block ?_
  refine AW.loop (fun m_ e_ H_ => ∃ (i : Nat) (x : StF) (t : TapeS) (m : Vals) (e0 : Env), m_ = q - i ∧ (MarksI i x t m ∧ i ≤ 40) ∧ e_ = upds e0 [(0, .slice rops q c), (5, .pointer (some ⟨b19, 0, none⟩)), (7, .map (some b32)), (8, .int .i64 (i : Int))] ∧ Sep H [.blk b32 (mpB (ents S m)), stC b19 b14 x t] H_) _ ⟨0, _, _, [], _, rfl, ⟨marks_new, by omega⟩, Slots.eq ⟨(by first | rfl | exact i64_int (by omega) (by omega) (by omega) | assumption), (by first | rfl | exact i64_int (by omega) (by omega) (by omega) | assumption), (by first | rfl | exact i64_int (by omega) (by omega) (by omega) | assumption), (by first | rfl | exact i64_int (by omega) (by omega) (by omega) | assumption),  trivial⟩, hS3⟩ ?_
  rintro m_ _ Hl0 ⟨i, x, t, m, e0, rfl, ⟨hI, hi40⟩, rfl, hSl0⟩
  try clear hS3
  refine AW.seq ?_
  refine AW.seq ?_
  refine AW.region ?_
  refine OpsW.q rfl (q_move (v := .int _ _) rfl) ?_
  refine OpsW.q rfl (q_move (v := .slice _ _ _) rfl) ?_
  refine OpsW.q rfl (q_lenV Try.underlying31 rfl) ?_
  refine OpsW.q rfl (q_lss rfl rfl) ?_
  refine OpsW.qb rfl (q_move (v := .bool _) rfl) ?_
  intro b37 eb37
  refine OpsW.g rfl rfl rfl (fun hB => by simp only [Bool.and_eq_true, beq_iff_eq] at hB; obtain rfl := hB; exact (q_move (v := .int _ _) rfl)) ?_
  refine OpsW.g rfl rfl rfl (fun hB => by simp only [Bool.and_eq_true, beq_iff_eq] at hB; obtain rfl := hB; exact (q_lss rfl rfl)) ?_
  refine OpsW.q rfl (q_and2 rfl rfl rfl) ?_
  refine OpsW.nil ?_
  refine SeqP.go ?_
  refine AW.cond2 rfl (fun h1 => ?_) (fun h1 => ?_)
  ·
    try simp only [eb37, decide_eq_true_eq, decide_eq_false_iff_not, Bool.or_eq_true, Bool.and_eq_true, Bool.or_eq_false_iff, Bool.and_eq_false_imp, Bool.not_eq_true', Bool.not_eq_false', ne_eq, Decidable.not_not, Int.not_lt, Int.not_le, Bool.not_eq_true, Bool.not_eq_false] at h1
    refine AW.exit ?_
    refine SeqP.exit ?_
    refine LoopP.exit ?_
    refine BlockP.here ?_
    refine SeqP.go ?_
    refine AW.seq ?_
    refine AW.region ?_
    refine OpsW.q rfl (o_call rfl Try.func9 rfl rfl (awake_con)) ?_
    refine OpsW.q rfl (q_assign (v := .bool _) rfl) ?_
    refine OpsW.nil ?_
    refine SeqP.go ?_
    refine AW.ret ?_
    refine RetP.mk1 (H' := _) (v1 := .bool _) rfl rfl  hSl0.le ?_
    exact ⟨rfl, rfl⟩
  try simp only [eb37, decide_eq_true_eq, decide_eq_false_iff_not, Bool.or_eq_true, Bool.and_eq_true, Bool.or_eq_false_iff, Bool.and_eq_false_imp, Bool.not_eq_true', Bool.not_eq_false', ne_eq, Decidable.not_not, Int.not_lt, Int.not_le, Bool.not_eq_true, Bool.not_eq_false] at h1
  have hi : i < q ∧ i < 40 := by omega
  have hop := hrops
  have hon := hob i hi.1
  refine AW.skip ?_
  refine SeqP.go ?_
  refine AW.seq ?_
  refine AW.block ?_
  refine AW.seq ?_
  refine AW.region ?_
  refine OpsW.q rfl (q_move (v := .slice _ _ _) rfl) ?_
  refine OpsW.q rfl (q_move (v := .int _ _) rfl) ?_
  refine OpsW.q rfl (q_indexAddrR Try.underlying31 (by kernel_rfl) rfl rfl (by first | omega | decide) (by first | omega | decide) hrops) ?_
  refine OpsW.q rfl (q_loadR (sz := 5) (by kernel_rfl) rfl hrops (by first | omega | decide)) ?_
  rw [Int.toNat_natCast]
  refine OpsW.m rfl (s_alloc (z := .agg #[.int .i64 0, .int .i64 0, .int .i64 0, S [], .bool false]) (cs := [.int .i64 0, .int .i64 0, .int .i64 0, S [], .bool false]) hSl0 (by kernel_rfl) rfl) ?_
  rintro _ H4 ⟨b9, rfl, hS4⟩
  clear hSl0
  refine OpsW.ms (s_storeS (n := 5) hS4 at0 (by kernel_rfl) rfl rfl rfl (ones_all rfl) rfl) ?_
  rintro _ H5 ⟨rfl, hS5⟩
  clear hS4
  refine OpsW.nil ?_
  refine SeqP.go ?_
  refine AW.seq ?_
  refine AW.seq ?_
  refine AW.region ?_
  refine OpsW.q rfl (q_fieldAddr (sz := 0) Try.underlying40 rfl (by kernel_rfl) rfl) ?_
  refine OpsW.q rfl (q_load (v := S _) (by kernel_rfl) rfl (hS5.blk at0) rfl) ?_
  refine OpsW.q rfl (q_lenS Try.underlying9 rfl) ?_
  refine OpsW.q rfl (q_lss rfl rfl) ?_
  refine OpsW.qb rfl (q_move (v := .bool _) rfl) ?_
  intro b51 eb51
  refine OpsW.g rfl rfl rfl (fun hB => by simp only [Bool.and_eq_true, beq_iff_eq] at hB; obtain rfl := hB; exact (q_fieldAddr (sz := 0) Try.underlying40 rfl (by kernel_rfl) rfl)) ?_
  refine OpsW.g rfl rfl rfl (fun hB => by simp only [Bool.and_eq_true, beq_iff_eq] at hB; obtain rfl := hB; exact (q_load (v := S _) (by kernel_rfl) rfl (hS5.blk at0) rfl)) ?_
  refine OpsW.g rfl rfl rfl (fun hB => by simp only [Bool.and_eq_true, beq_iff_eq] at hB; obtain rfl := hB; exact (q_lenS Try.underlying9 rfl)) ?_
  refine OpsW.g rfl rfl rfl (fun hB => by simp only [Bool.and_eq_true, beq_iff_eq] at hB; obtain rfl := hB; exact (q_gtr rfl rfl)) ?_
  refine OpsW.q rfl (q_or2 rfl rfl rfl) ?_
  refine OpsW.nil ?_
  refine SeqP.go ?_
  refine AW.cond rfl (fun h2 => ?_) (fun h2 => ?_)
  ·
    try simp only [eb37, eb51, decide_eq_true_eq, decide_eq_false_iff_not, Bool.or_eq_true, Bool.and_eq_true, Bool.or_eq_false_iff, Bool.and_eq_false_imp, Bool.not_eq_true', Bool.not_eq_false', ne_eq, Decidable.not_not, Int.not_lt, Int.not_le, Bool.not_eq_true, Bool.not_eq_false] at h2
    refine AW.seq ?_
    refine AW.region ?_
    refine OpsW.q rfl (o_call rfl Try.func9 rfl rfl (awake_con)) ?_
    refine OpsW.q rfl (q_assign (v := .bool _) rfl) ?_
    refine OpsW.nil ?_
    refine SeqP.go ?_
    refine AW.ret ?_
    refine SeqP.ret ?_
    refine BlockP.ret ?_
    refine SeqP.ret ?_
    refine LoopP.ret ?_
    refine BlockP.ret ?_
    refine SeqP.ret ?_
    refine RetP.mk1 (H' := _) (v1 := .bool _) rfl rfl  hS5.le ?_
    exact ⟨rfl, rfl⟩
  try simp only [eb37, eb51, decide_eq_true_eq, decide_eq_false_iff_not, Bool.or_eq_true, Bool.and_eq_true, Bool.or_eq_false_iff, Bool.and_eq_false_imp, Bool.not_eq_true', Bool.not_eq_false', ne_eq, Decidable.not_not, Int.not_lt, Int.not_le, Bool.not_eq_true, Bool.not_eq_false] at h2
  have hdl : 1 ≤ (o i).dat.length ∧ (o i).dat.length ≤ 8192 := by omega
  refine AW.skip ?_
  refine SeqP.go ?_
  refine AW.seq ?_
  refine AW.region ?_
  refine OpsW.q rfl (q_fieldAddr (sz := 0) Try.underlying40 rfl (by kernel_rfl) rfl) ?_
  refine OpsW.q rfl (q_load (v := .int _ _) (by kernel_rfl) rfl (hS5.blk at0) rfl) ?_
  refine OpsW.q rfl (o_call rfl Try.func16 rfl rfl (sender_con _)) ?_
  refine OpsW.q rfl (q_assign (v := S _) rfl) ?_
  refine OpsW.nil ?_
  refine SeqP.go ?_
  refine AW.seq ?_
  refine AW.region ?_
  refine OpsW.q rfl (q_move (v := .pointer _) rfl) ?_
  refine OpsW.q rfl (q_move (v := S _) rfl) ?_
  refine OpsW.q rfl (q_fieldAddr (sz := 0) Try.underlying40 rfl (by kernel_rfl) rfl) ?_
  refine OpsW.q rfl (q_load (v := .int _ _) (by kernel_rfl) rfl (hS5.blk at0) rfl) ?_
  refine OpsW.q rfl (q_fieldAddr (sz := 0) Try.underlying40 rfl (by kernel_rfl) rfl) ?_
  refine OpsW.q rfl (q_load (v := S _) (by kernel_rfl) rfl (hS5.blk at0) rfl) ?_
  refine OpsW.q rfl (q_build (cells := #[.int .i64 (o i).n, S (o i).dat]) rfl (by kernel_rfl)) ?_
  obtain ⟨Hf6, le6, hA6, hB6⟩ := hS5.framed at2
  refine OpsW.m rfl (o_call rfl Try.func17 rfl rfl (Add_c hA6 hI.ok (hI.tk (by omega)) (by have := hI.len; omega) hI.hh)) ?_
  rintro _ H6 ⟨rfl, hR6⟩
  have hS6 := hB6 _ _ hR6
  clear hR6 hB6 hA6
  clear hS5
  refine OpsW.q rfl (q_assign (v := .int _ _) rfl) ?_
  refine OpsW.nil ?_
  refine SeqP.go ?_
  refine AW.seq ?_
  refine AW.region ?_
  refine OpsW.q rfl (q_assign (v := .int _ _) rfl) ?_
  refine OpsW.nil ?_
  refine SeqP.go ?_
  refine AW.seq ?_
  refine AW.seq ?_
  refine AW.region ?_
  refine OpsW.q rfl (q_fieldAddr (sz := 0) Try.underlying40 rfl (by kernel_rfl) rfl) ?_
  refine OpsW.q rfl (q_load (v := .int _ _) (by kernel_rfl) rfl (hS6.blk at0) rfl) ?_
  refine OpsW.q rfl (q_lss rfl rfl) ?_
  refine OpsW.nil ?_
  refine SeqP.go ?_
  refine AW.cond rfl (fun h3 => ?_) (fun h3 => ?_)
  ·
    try simp only [eb37, eb51, decide_eq_true_eq, decide_eq_false_iff_not, Bool.or_eq_true, Bool.and_eq_true, Bool.or_eq_false_iff, Bool.and_eq_false_imp, Bool.not_eq_true', Bool.not_eq_false', ne_eq, Decidable.not_not, Int.not_lt, Int.not_le, Bool.not_eq_true, Bool.not_eq_false] at h3
    obtain ⟨he, hI2⟩ := marks_arg (k := (o i).who) (n := (o i).n) (d := (o i).dat) hI (by omega)
    refine AW.region ?_
    refine OpsW.q rfl (q_assign (v := .int _ _) rfl) ?_
    refine OpsW.nil ?_
    refine SeqP.go ?_
    refine AW.seq ?_
    refine AW.steps rfl 22 rfl ?_
    refine AnyW.firstG 0 rfl (by kernel_rfl) (by kernel_rfl) (by kernel_rfl) rfl (dst_lt rfl) (v_move (v := .int _ _) rfl) ?_
    refine AnyW.onlyQG 1 rfl (by kernel_rfl) rfl (dst_lt rfl) (q_move (v := .int _ _) rfl) ?_
    refine AnyW.onlyQG 2 rfl (by kernel_rfl) rfl (dst_lt rfl) (q_neq rfl rfl) ?_
    rw [he]
    refine AnyW.onlyQG 3 rfl (by kernel_rfl) rfl (dst_lt rfl) (q_move (v := .bool false) rfl) ?_
    refine AnyW.firstG 4 rfl (by kernel_rfl) (by kernel_rfl) (by kernel_rfl) rfl (dst_lt rfl) (v_move (v := .pointer _) rfl) ?_
    refine AnyW.firstG 5 rfl (by kernel_rfl) (by kernel_rfl) (by kernel_rfl) rfl (dst_lt rfl) (v_move (v := S _) rfl) ?_
    refine AnyW.firstG 7 rfl (by kernel_rfl) (by kernel_rfl) (by kernel_rfl) rfl (dst_lt rfl) (v_move (v := .map _) rfl) ?_
    refine AnyW.firstG 8 rfl (by kernel_rfl) (by kernel_rfl) (by kernel_rfl) rfl (dst_lt rfl) (v_move (v := S _) rfl) ?_
    refine AnyW.twoG 6 9 rfl rfl (by kernel_rfl) rfl rfl (dst_lt rfl) (dst_lt rfl) (o_call rfl Try.func18 rfl rfl (Mark_c hS6 at2)) (q_lookup (z := .int .i64 0) Try.underlying38 (key_str Try.underlying9) (by kernel_rfl) rfl rfl (hS6.blk at1)) ?_ ?_
    ·
      rintro _ _ ⟨rfl, rfl⟩
      refine AnyW.onlyQG 9 rfl (by kernel_rfl) rfl (dst_lt rfl) (q_lookup (z := .int .i64 0) Try.underlying38 (key_str Try.underlying9) (by kernel_rfl) rfl rfl (hS6.blk at1)) ?_
      rw [hI2.mg]
      refine AnyW.onlyQG 10 rfl (by kernel_rfl) rfl (dst_lt rfl) (q_neq rfl rfl) ?_
      rw [decide_eq_false (not_not_intro (rfl : mkP (addS t x (sndB (o i).who) (o i).n (o i).dat).2.1.st.L (sndB (o i).who) = _))]
      refine AnyW.onlyQG 11 rfl (by kernel_rfl) rfl (dst_lt rfl) (q_or2 rfl rfl rfl) ?_
      refine AnyW.onlyQG 12 rfl (by kernel_rfl) rfl (dst_lt rfl) (q_move (v := .bool false) rfl) ?_
      refine AnyW.firstG 13 rfl (by kernel_rfl) (by kernel_rfl) (by kernel_rfl) rfl (dst_lt rfl) (v_move (v := .pointer _) rfl) ?_
      refine AnyW.firstG 14 rfl (by kernel_rfl) (by kernel_rfl) (by kernel_rfl) rfl (dst_lt rfl) (v_move (v := S _) rfl) ?_
      refine AnyW.firstG 17 rfl (by kernel_rfl) (by kernel_rfl) (by kernel_rfl) rfl (dst_lt rfl) (v_move (v := .map _) rfl) ?_
      refine AnyW.firstG 18 rfl (by kernel_rfl) (by kernel_rfl) (by kernel_rfl) rfl (dst_lt rfl) (v_move (v := S _) rfl) ?_
      refine AnyW.twoG 15 19 rfl rfl (by kernel_rfl) rfl rfl (dst_lt rfl) (dst_lt rfl) (o_call rfl Try.func19 rfl rfl (Of_c hS6 at2 (by have := hI2.len; omega))) (q_lookup (z := .int .i64 0) Try.underlying38 (key_str Try.underlying9) (by kernel_rfl) rfl rfl (hS6.blk at1)) ?_ ?_
      ·
        rintro v105 H7 hR7
        have hS7 := hS6.join hR7
        simp only [List.cons_append, List.nil_append] at hS7
        clear hR7 hS6
        refine AnyW.twoG 16 19 rfl rfl (by kernel_rfl) rfl rfl (dst_lt rfl) (dst_lt rfl) (q_lenVec Try.underlying46 rfl (hS7.vec at0)) (q_lookup (z := .int .i64 0) Try.underlying38 (key_str Try.underlying9) (by kernel_rfl) rfl rfl (hS7.blk at2)) ?_ ?_
        ·
          rintro _ _ ⟨rfl, rfl⟩
          refine AnyW.onlyQG 19 rfl (by kernel_rfl) rfl (dst_lt rfl) (q_lookup (z := .int .i64 0) Try.underlying38 (key_str Try.underlying9) (by kernel_rfl) rfl rfl (hS7.blk at2)) ?_
          rw [hI2.mg]
          refine AnyW.onlyQG 20 rfl (by kernel_rfl) rfl (dst_lt rfl) (q_neq rfl rfl) ?_
          refine AnyW.onlyQG 21 rfl (by kernel_rfl) rfl (dst_lt rfl) (q_or2 rfl rfl rfl) ?_
          refine AnyW.done (by kernel_rfl) ?_
          refine SeqP.go ?_
          refine AW.cond rfl (fun h6 => ?_) (fun h6 => ?_)
          ·
            exfalso
            try simp only [eb37, eb51, decide_eq_true_eq, decide_eq_false_iff_not, Bool.or_eq_true, Bool.and_eq_true, Bool.or_eq_false_iff, Bool.and_eq_false_imp, Bool.not_eq_true', Bool.not_eq_false', ne_eq, Decidable.not_not, Int.not_lt, Int.not_le, Bool.not_eq_true, Bool.not_eq_false] at h6
            simp [mkP] at h6
          try simp only [eb37, eb51, decide_eq_true_eq, decide_eq_false_iff_not, Bool.or_eq_true, Bool.and_eq_true, Bool.or_eq_false_iff, Bool.and_eq_false_imp, Bool.not_eq_true', Bool.not_eq_false', ne_eq, Decidable.not_not, Int.not_lt, Int.not_le, Bool.not_eq_true, Bool.not_eq_false] at h6
          refine AW.skip ?_
          refine BlockP.go ?_
          refine SeqP.go ?_
          refine AW.region ?_
          refine OpsW.q rfl (q_move (v := .int _ _) rfl) ?_
          refine OpsW.q rfl (q_addI rfl rfl (by omega)) ?_
          refine OpsW.q rfl (q_assign (v := .int _ _) rfl) ?_
          refine OpsW.nil ?_
          replace hS7 := hS7.del del0
          replace hS7 := hS7.del del0
          exact LoopP.go _ (by omega) ⟨i + 1, _, _, _, _, rfl, ⟨hI2, by omega⟩, Slots.eq ⟨(by first | rfl | exact i64_int (by omega) (by omega) (by omega) | assumption), (by first | rfl | exact i64_int (by omega) (by omega) (by omega) | assumption), (by first | rfl | exact i64_int (by omega) (by omega) (by omega) | assumption), (by first | rfl | exact i64_int (by omega) (by omega) (by omega) | assumption),  trivial⟩, hS7⟩
        ·
          rintro _ _ ⟨rfl, rfl⟩
          rw [hI2.mg]
          refine AnyW.onlyQG 16 rfl (by kernel_rfl) rfl (dst_lt rfl) (q_lenVec Try.underlying46 rfl (hS7.vec at0)) ?_
          refine AnyW.onlyQG 20 rfl (by kernel_rfl) rfl (dst_lt rfl) (q_neq rfl rfl) ?_
          refine AnyW.onlyQG 21 rfl (by kernel_rfl) rfl (dst_lt rfl) (q_or2 rfl rfl rfl) ?_
          refine AnyW.done (by kernel_rfl) ?_
          refine SeqP.go ?_
          refine AW.cond rfl (fun h6 => ?_) (fun h6 => ?_)
          ·
            exfalso
            try simp only [eb37, eb51, decide_eq_true_eq, decide_eq_false_iff_not, Bool.or_eq_true, Bool.and_eq_true, Bool.or_eq_false_iff, Bool.and_eq_false_imp, Bool.not_eq_true', Bool.not_eq_false', ne_eq, Decidable.not_not, Int.not_lt, Int.not_le, Bool.not_eq_true, Bool.not_eq_false] at h6
            simp [mkP] at h6
          try simp only [eb37, eb51, decide_eq_true_eq, decide_eq_false_iff_not, Bool.or_eq_true, Bool.and_eq_true, Bool.or_eq_false_iff, Bool.and_eq_false_imp, Bool.not_eq_true', Bool.not_eq_false', ne_eq, Decidable.not_not, Int.not_lt, Int.not_le, Bool.not_eq_true, Bool.not_eq_false] at h6
          refine AW.skip ?_
          refine BlockP.go ?_
          refine SeqP.go ?_
          refine AW.region ?_
          refine OpsW.q rfl (q_move (v := .int _ _) rfl) ?_
          refine OpsW.q rfl (q_addI rfl rfl (by omega)) ?_
          refine OpsW.q rfl (q_assign (v := .int _ _) rfl) ?_
          refine OpsW.nil ?_
          replace hS7 := hS7.del del0
          replace hS7 := hS7.del del0
          exact LoopP.go _ (by omega) ⟨i + 1, _, _, _, _, rfl, ⟨hI2, by omega⟩, Slots.eq ⟨(by first | rfl | exact i64_int (by omega) (by omega) (by omega) | assumption), (by first | rfl | exact i64_int (by omega) (by omega) (by omega) | assumption), (by first | rfl | exact i64_int (by omega) (by omega) (by omega) | assumption), (by first | rfl | exact i64_int (by omega) (by omega) (by omega) | assumption),  trivial⟩, hS7⟩
      ·
        rintro _ _ ⟨rfl, rfl⟩
        rw [hI2.mg]
        refine AnyW.onlyG 15 rfl (by kernel_rfl) rfl (dst_lt rfl) (o_call rfl Try.func19 rfl rfl (Of_c hS6 at2 (by have := hI2.len; omega))) ?_
        rintro v105 H8 hR8
        have hS8 := hS6.join hR8
        simp only [List.cons_append, List.nil_append] at hS8
        clear hR8 hS6
        refine AnyW.onlyQG 16 rfl (by kernel_rfl) rfl (dst_lt rfl) (q_lenVec Try.underlying46 rfl (hS8.vec at0)) ?_
        refine AnyW.onlyQG 20 rfl (by kernel_rfl) rfl (dst_lt rfl) (q_neq rfl rfl) ?_
        refine AnyW.onlyQG 21 rfl (by kernel_rfl) rfl (dst_lt rfl) (q_or2 rfl rfl rfl) ?_
        refine AnyW.done (by kernel_rfl) ?_
        refine SeqP.go ?_
        refine AW.cond rfl (fun h6 => ?_) (fun h6 => ?_)
        ·
          exfalso
          try simp only [eb37, eb51, decide_eq_true_eq, decide_eq_false_iff_not, Bool.or_eq_true, Bool.and_eq_true, Bool.or_eq_false_iff, Bool.and_eq_false_imp, Bool.not_eq_true', Bool.not_eq_false', ne_eq, Decidable.not_not, Int.not_lt, Int.not_le, Bool.not_eq_true, Bool.not_eq_false] at h6
          simp [mkP] at h6
        try simp only [eb37, eb51, decide_eq_true_eq, decide_eq_false_iff_not, Bool.or_eq_true, Bool.and_eq_true, Bool.or_eq_false_iff, Bool.and_eq_false_imp, Bool.not_eq_true', Bool.not_eq_false', ne_eq, Decidable.not_not, Int.not_lt, Int.not_le, Bool.not_eq_true, Bool.not_eq_false] at h6
        refine AW.skip ?_
        refine BlockP.go ?_
        refine SeqP.go ?_
        refine AW.region ?_
        refine OpsW.q rfl (q_move (v := .int _ _) rfl) ?_
        refine OpsW.q rfl (q_addI rfl rfl (by omega)) ?_
        refine OpsW.q rfl (q_assign (v := .int _ _) rfl) ?_
        refine OpsW.nil ?_
        replace hS8 := hS8.del del0
        replace hS8 := hS8.del del0
        exact LoopP.go _ (by omega) ⟨i + 1, _, _, _, _, rfl, ⟨hI2, by omega⟩, Slots.eq ⟨(by first | rfl | exact i64_int (by omega) (by omega) (by omega) | assumption), (by first | rfl | exact i64_int (by omega) (by omega) (by omega) | assumption), (by first | rfl | exact i64_int (by omega) (by omega) (by omega) | assumption), (by first | rfl | exact i64_int (by omega) (by omega) (by omega) | assumption),  trivial⟩, hS8⟩
    ·
      rintro _ _ ⟨rfl, rfl⟩
      rw [hI2.mg]
      refine AnyW.onlyQG 6 rfl (by kernel_rfl) rfl (dst_lt rfl) (o_call rfl Try.func18 rfl rfl (Mark_c hS6 at2)) ?_
      refine AnyW.onlyQG 10 rfl (by kernel_rfl) rfl (dst_lt rfl) (q_neq rfl rfl) ?_
      rw [decide_eq_false (not_not_intro (rfl : mkP (addS t x (sndB (o i).who) (o i).n (o i).dat).2.1.st.L (sndB (o i).who) = _))]
      refine AnyW.onlyQG 11 rfl (by kernel_rfl) rfl (dst_lt rfl) (q_or2 rfl rfl rfl) ?_
      refine AnyW.onlyQG 12 rfl (by kernel_rfl) rfl (dst_lt rfl) (q_move (v := .bool false) rfl) ?_
      refine AnyW.firstG 13 rfl (by kernel_rfl) (by kernel_rfl) (by kernel_rfl) rfl (dst_lt rfl) (v_move (v := .pointer _) rfl) ?_
      refine AnyW.firstG 14 rfl (by kernel_rfl) (by kernel_rfl) (by kernel_rfl) rfl (dst_lt rfl) (v_move (v := S _) rfl) ?_
      refine AnyW.firstG 17 rfl (by kernel_rfl) (by kernel_rfl) (by kernel_rfl) rfl (dst_lt rfl) (v_move (v := .map _) rfl) ?_
      refine AnyW.firstG 18 rfl (by kernel_rfl) (by kernel_rfl) (by kernel_rfl) rfl (dst_lt rfl) (v_move (v := S _) rfl) ?_
      refine AnyW.twoG 15 19 rfl rfl (by kernel_rfl) rfl rfl (dst_lt rfl) (dst_lt rfl) (o_call rfl Try.func19 rfl rfl (Of_c hS6 at2 (by have := hI2.len; omega))) (q_lookup (z := .int .i64 0) Try.underlying38 (key_str Try.underlying9) (by kernel_rfl) rfl rfl (hS6.blk at1)) ?_ ?_
      ·
        rintro v105 H9 hR9
        have hS9 := hS6.join hR9
        simp only [List.cons_append, List.nil_append] at hS9
        clear hR9 hS6
        refine AnyW.twoG 16 19 rfl rfl (by kernel_rfl) rfl rfl (dst_lt rfl) (dst_lt rfl) (q_lenVec Try.underlying46 rfl (hS9.vec at0)) (q_lookup (z := .int .i64 0) Try.underlying38 (key_str Try.underlying9) (by kernel_rfl) rfl rfl (hS9.blk at2)) ?_ ?_
        ·
          rintro _ _ ⟨rfl, rfl⟩
          refine AnyW.onlyQG 19 rfl (by kernel_rfl) rfl (dst_lt rfl) (q_lookup (z := .int .i64 0) Try.underlying38 (key_str Try.underlying9) (by kernel_rfl) rfl rfl (hS9.blk at2)) ?_
          rw [hI2.mg]
          refine AnyW.onlyQG 20 rfl (by kernel_rfl) rfl (dst_lt rfl) (q_neq rfl rfl) ?_
          refine AnyW.onlyQG 21 rfl (by kernel_rfl) rfl (dst_lt rfl) (q_or2 rfl rfl rfl) ?_
          refine AnyW.done (by kernel_rfl) ?_
          refine SeqP.go ?_
          refine AW.cond rfl (fun h6 => ?_) (fun h6 => ?_)
          ·
            exfalso
            try simp only [eb37, eb51, decide_eq_true_eq, decide_eq_false_iff_not, Bool.or_eq_true, Bool.and_eq_true, Bool.or_eq_false_iff, Bool.and_eq_false_imp, Bool.not_eq_true', Bool.not_eq_false', ne_eq, Decidable.not_not, Int.not_lt, Int.not_le, Bool.not_eq_true, Bool.not_eq_false] at h6
            simp [mkP] at h6
          try simp only [eb37, eb51, decide_eq_true_eq, decide_eq_false_iff_not, Bool.or_eq_true, Bool.and_eq_true, Bool.or_eq_false_iff, Bool.and_eq_false_imp, Bool.not_eq_true', Bool.not_eq_false', ne_eq, Decidable.not_not, Int.not_lt, Int.not_le, Bool.not_eq_true, Bool.not_eq_false] at h6
          refine AW.skip ?_
          refine BlockP.go ?_
          refine SeqP.go ?_
          refine AW.region ?_
          refine OpsW.q rfl (q_move (v := .int _ _) rfl) ?_
          refine OpsW.q rfl (q_addI rfl rfl (by omega)) ?_
          refine OpsW.q rfl (q_assign (v := .int _ _) rfl) ?_
          refine OpsW.nil ?_
          replace hS9 := hS9.del del0
          replace hS9 := hS9.del del0
          exact LoopP.go _ (by omega) ⟨i + 1, _, _, _, _, rfl, ⟨hI2, by omega⟩, Slots.eq ⟨(by first | rfl | exact i64_int (by omega) (by omega) (by omega) | assumption), (by first | rfl | exact i64_int (by omega) (by omega) (by omega) | assumption), (by first | rfl | exact i64_int (by omega) (by omega) (by omega) | assumption), (by first | rfl | exact i64_int (by omega) (by omega) (by omega) | assumption),  trivial⟩, hS9⟩
        ·
          rintro _ _ ⟨rfl, rfl⟩
          rw [hI2.mg]
          refine AnyW.onlyQG 16 rfl (by kernel_rfl) rfl (dst_lt rfl) (q_lenVec Try.underlying46 rfl (hS9.vec at0)) ?_
          refine AnyW.onlyQG 20 rfl (by kernel_rfl) rfl (dst_lt rfl) (q_neq rfl rfl) ?_
          refine AnyW.onlyQG 21 rfl (by kernel_rfl) rfl (dst_lt rfl) (q_or2 rfl rfl rfl) ?_
          refine AnyW.done (by kernel_rfl) ?_
          refine SeqP.go ?_
          refine AW.cond rfl (fun h6 => ?_) (fun h6 => ?_)
          ·
            exfalso
            try simp only [eb37, eb51, decide_eq_true_eq, decide_eq_false_iff_not, Bool.or_eq_true, Bool.and_eq_true, Bool.or_eq_false_iff, Bool.and_eq_false_imp, Bool.not_eq_true', Bool.not_eq_false', ne_eq, Decidable.not_not, Int.not_lt, Int.not_le, Bool.not_eq_true, Bool.not_eq_false] at h6
            simp [mkP] at h6
          try simp only [eb37, eb51, decide_eq_true_eq, decide_eq_false_iff_not, Bool.or_eq_true, Bool.and_eq_true, Bool.or_eq_false_iff, Bool.and_eq_false_imp, Bool.not_eq_true', Bool.not_eq_false', ne_eq, Decidable.not_not, Int.not_lt, Int.not_le, Bool.not_eq_true, Bool.not_eq_false] at h6
          refine AW.skip ?_
          refine BlockP.go ?_
          refine SeqP.go ?_
          refine AW.region ?_
          refine OpsW.q rfl (q_move (v := .int _ _) rfl) ?_
          refine OpsW.q rfl (q_addI rfl rfl (by omega)) ?_
          refine OpsW.q rfl (q_assign (v := .int _ _) rfl) ?_
          refine OpsW.nil ?_
          replace hS9 := hS9.del del0
          replace hS9 := hS9.del del0
          exact LoopP.go _ (by omega) ⟨i + 1, _, _, _, _, rfl, ⟨hI2, by omega⟩, Slots.eq ⟨(by first | rfl | exact i64_int (by omega) (by omega) (by omega) | assumption), (by first | rfl | exact i64_int (by omega) (by omega) (by omega) | assumption), (by first | rfl | exact i64_int (by omega) (by omega) (by omega) | assumption), (by first | rfl | exact i64_int (by omega) (by omega) (by omega) | assumption),  trivial⟩, hS9⟩
      ·
        rintro _ _ ⟨rfl, rfl⟩
        rw [hI2.mg]
        refine AnyW.onlyG 15 rfl (by kernel_rfl) rfl (dst_lt rfl) (o_call rfl Try.func19 rfl rfl (Of_c hS6 at2 (by have := hI2.len; omega))) ?_
        rintro v105 H10 hR10
        have hS10 := hS6.join hR10
        simp only [List.cons_append, List.nil_append] at hS10
        clear hR10 hS6
        refine AnyW.onlyQG 16 rfl (by kernel_rfl) rfl (dst_lt rfl) (q_lenVec Try.underlying46 rfl (hS10.vec at0)) ?_
        refine AnyW.onlyQG 20 rfl (by kernel_rfl) rfl (dst_lt rfl) (q_neq rfl rfl) ?_
        refine AnyW.onlyQG 21 rfl (by kernel_rfl) rfl (dst_lt rfl) (q_or2 rfl rfl rfl) ?_
        refine AnyW.done (by kernel_rfl) ?_
        refine SeqP.go ?_
        refine AW.cond rfl (fun h6 => ?_) (fun h6 => ?_)
        ·
          exfalso
          try simp only [eb37, eb51, decide_eq_true_eq, decide_eq_false_iff_not, Bool.or_eq_true, Bool.and_eq_true, Bool.or_eq_false_iff, Bool.and_eq_false_imp, Bool.not_eq_true', Bool.not_eq_false', ne_eq, Decidable.not_not, Int.not_lt, Int.not_le, Bool.not_eq_true, Bool.not_eq_false] at h6
          simp [mkP] at h6
        try simp only [eb37, eb51, decide_eq_true_eq, decide_eq_false_iff_not, Bool.or_eq_true, Bool.and_eq_true, Bool.or_eq_false_iff, Bool.and_eq_false_imp, Bool.not_eq_true', Bool.not_eq_false', ne_eq, Decidable.not_not, Int.not_lt, Int.not_le, Bool.not_eq_true, Bool.not_eq_false] at h6
        refine AW.skip ?_
        refine BlockP.go ?_
        refine SeqP.go ?_
        refine AW.region ?_
        refine OpsW.q rfl (q_move (v := .int _ _) rfl) ?_
        refine OpsW.q rfl (q_addI rfl rfl (by omega)) ?_
        refine OpsW.q rfl (q_assign (v := .int _ _) rfl) ?_
        refine OpsW.nil ?_
        replace hS10 := hS10.del del0
        replace hS10 := hS10.del del0
        exact LoopP.go _ (by omega) ⟨i + 1, _, _, _, _, rfl, ⟨hI2, by omega⟩, Slots.eq ⟨(by first | rfl | exact i64_int (by omega) (by omega) (by omega) | assumption), (by first | rfl | exact i64_int (by omega) (by omega) (by omega) | assumption), (by first | rfl | exact i64_int (by omega) (by omega) (by omega) | assumption), (by first | rfl | exact i64_int (by omega) (by omega) (by omega) | assumption),  trivial⟩, hS10⟩
  try simp only [eb37, eb51, decide_eq_true_eq, decide_eq_false_iff_not, Bool.or_eq_true, Bool.and_eq_true, Bool.or_eq_false_iff, Bool.and_eq_false_imp, Bool.not_eq_true', Bool.not_eq_false', ne_eq, Decidable.not_not, Int.not_lt, Int.not_le, Bool.not_eq_true, Bool.not_eq_false] at h3
  have hn1 : ¬ (o i).n < 1 := by omega
  refine AW.seq ?_
  refine AW.region ?_
  refine OpsW.q rfl (q_fieldAddr (sz := 0) Try.underlying40 rfl (by kernel_rfl) rfl) ?_
  refine OpsW.q rfl (q_load (v := .int _ _) (by kernel_rfl) rfl (hS6.blk at0) rfl) ?_
  refine OpsW.q rfl (q_subI rfl rfl (by omega)) ?_
  refine OpsW.q rfl (q_move (v := .map _) rfl) ?_
  refine OpsW.q rfl (q_move (v := S _) rfl) ?_
  refine OpsW.q rfl (q_lookup (z := .int .i64 0) Try.underlying38 (key_str Try.underlying9) (by kernel_rfl) rfl rfl (hS6.blk at1)) ?_
  rw [hI.mg]
  refine OpsW.q rfl (q_gtr rfl rfl) ?_
  refine OpsW.nil ?_
  refine SeqP.go ?_
  refine AW.cond rfl (fun h4 => ?_) (fun h4 => ?_)
  ·
    try simp only [eb37, eb51, decide_eq_true_eq, decide_eq_false_iff_not, Bool.or_eq_true, Bool.and_eq_true, Bool.or_eq_false_iff, Bool.and_eq_false_imp, Bool.not_eq_true', Bool.not_eq_false', ne_eq, Decidable.not_not, Int.not_lt, Int.not_le, Bool.not_eq_true, Bool.not_eq_false] at h4
    obtain ⟨he, hI2⟩ := marks_seq (k := (o i).who) (n := (o i).n) (d := (o i).dat) hI hn1 hdl (by omega)
    refine AW.region ?_
    refine OpsW.q rfl (q_assign (v := .int _ _) rfl) ?_
    refine OpsW.nil ?_
    refine SeqP.go ?_
    refine AW.seq ?_
    refine AW.steps rfl 22 rfl ?_
    refine AnyW.firstG 0 rfl (by kernel_rfl) (by kernel_rfl) (by kernel_rfl) rfl (dst_lt rfl) (v_move (v := .int _ _) rfl) ?_
    refine AnyW.onlyQG 1 rfl (by kernel_rfl) rfl (dst_lt rfl) (q_move (v := .int _ _) rfl) ?_
    refine AnyW.onlyQG 2 rfl (by kernel_rfl) rfl (dst_lt rfl) (q_neq rfl rfl) ?_
    rw [he]
    refine AnyW.onlyQG 3 rfl (by kernel_rfl) rfl (dst_lt rfl) (q_move (v := .bool false) rfl) ?_
    refine AnyW.firstG 4 rfl (by kernel_rfl) (by kernel_rfl) (by kernel_rfl) rfl (dst_lt rfl) (v_move (v := .pointer _) rfl) ?_
    refine AnyW.firstG 5 rfl (by kernel_rfl) (by kernel_rfl) (by kernel_rfl) rfl (dst_lt rfl) (v_move (v := S _) rfl) ?_
    refine AnyW.firstG 7 rfl (by kernel_rfl) (by kernel_rfl) (by kernel_rfl) rfl (dst_lt rfl) (v_move (v := .map _) rfl) ?_
    refine AnyW.firstG 8 rfl (by kernel_rfl) (by kernel_rfl) (by kernel_rfl) rfl (dst_lt rfl) (v_move (v := S _) rfl) ?_
    refine AnyW.twoG 6 9 rfl rfl (by kernel_rfl) rfl rfl (dst_lt rfl) (dst_lt rfl) (o_call rfl Try.func18 rfl rfl (Mark_c hS6 at2)) (q_lookup (z := .int .i64 0) Try.underlying38 (key_str Try.underlying9) (by kernel_rfl) rfl rfl (hS6.blk at1)) ?_ ?_
    ·
      rintro _ _ ⟨rfl, rfl⟩
      refine AnyW.onlyQG 9 rfl (by kernel_rfl) rfl (dst_lt rfl) (q_lookup (z := .int .i64 0) Try.underlying38 (key_str Try.underlying9) (by kernel_rfl) rfl rfl (hS6.blk at1)) ?_
      rw [hI2.mg]
      refine AnyW.onlyQG 10 rfl (by kernel_rfl) rfl (dst_lt rfl) (q_neq rfl rfl) ?_
      rw [decide_eq_false (not_not_intro (rfl : mkP (addS t x (sndB (o i).who) (o i).n (o i).dat).2.1.st.L (sndB (o i).who) = _))]
      refine AnyW.onlyQG 11 rfl (by kernel_rfl) rfl (dst_lt rfl) (q_or2 rfl rfl rfl) ?_
      refine AnyW.onlyQG 12 rfl (by kernel_rfl) rfl (dst_lt rfl) (q_move (v := .bool false) rfl) ?_
      refine AnyW.firstG 13 rfl (by kernel_rfl) (by kernel_rfl) (by kernel_rfl) rfl (dst_lt rfl) (v_move (v := .pointer _) rfl) ?_
      refine AnyW.firstG 14 rfl (by kernel_rfl) (by kernel_rfl) (by kernel_rfl) rfl (dst_lt rfl) (v_move (v := S _) rfl) ?_
      refine AnyW.firstG 17 rfl (by kernel_rfl) (by kernel_rfl) (by kernel_rfl) rfl (dst_lt rfl) (v_move (v := .map _) rfl) ?_
      refine AnyW.firstG 18 rfl (by kernel_rfl) (by kernel_rfl) (by kernel_rfl) rfl (dst_lt rfl) (v_move (v := S _) rfl) ?_
      refine AnyW.twoG 15 19 rfl rfl (by kernel_rfl) rfl rfl (dst_lt rfl) (dst_lt rfl) (o_call rfl Try.func19 rfl rfl (Of_c hS6 at2 (by have := hI2.len; omega))) (q_lookup (z := .int .i64 0) Try.underlying38 (key_str Try.underlying9) (by kernel_rfl) rfl rfl (hS6.blk at1)) ?_ ?_
      ·
        rintro v105 H11 hR11
        have hS11 := hS6.join hR11
        simp only [List.cons_append, List.nil_append] at hS11
        clear hR11 hS6
        refine AnyW.twoG 16 19 rfl rfl (by kernel_rfl) rfl rfl (dst_lt rfl) (dst_lt rfl) (q_lenVec Try.underlying46 rfl (hS11.vec at0)) (q_lookup (z := .int .i64 0) Try.underlying38 (key_str Try.underlying9) (by kernel_rfl) rfl rfl (hS11.blk at2)) ?_ ?_
        ·
          rintro _ _ ⟨rfl, rfl⟩
          refine AnyW.onlyQG 19 rfl (by kernel_rfl) rfl (dst_lt rfl) (q_lookup (z := .int .i64 0) Try.underlying38 (key_str Try.underlying9) (by kernel_rfl) rfl rfl (hS11.blk at2)) ?_
          rw [hI2.mg]
          refine AnyW.onlyQG 20 rfl (by kernel_rfl) rfl (dst_lt rfl) (q_neq rfl rfl) ?_
          refine AnyW.onlyQG 21 rfl (by kernel_rfl) rfl (dst_lt rfl) (q_or2 rfl rfl rfl) ?_
          refine AnyW.done (by kernel_rfl) ?_
          refine SeqP.go ?_
          refine AW.cond rfl (fun h6 => ?_) (fun h6 => ?_)
          ·
            exfalso
            try simp only [eb37, eb51, decide_eq_true_eq, decide_eq_false_iff_not, Bool.or_eq_true, Bool.and_eq_true, Bool.or_eq_false_iff, Bool.and_eq_false_imp, Bool.not_eq_true', Bool.not_eq_false', ne_eq, Decidable.not_not, Int.not_lt, Int.not_le, Bool.not_eq_true, Bool.not_eq_false] at h6
            simp [mkP] at h6
          try simp only [eb37, eb51, decide_eq_true_eq, decide_eq_false_iff_not, Bool.or_eq_true, Bool.and_eq_true, Bool.or_eq_false_iff, Bool.and_eq_false_imp, Bool.not_eq_true', Bool.not_eq_false', ne_eq, Decidable.not_not, Int.not_lt, Int.not_le, Bool.not_eq_true, Bool.not_eq_false] at h6
          refine AW.skip ?_
          refine BlockP.go ?_
          refine SeqP.go ?_
          refine AW.region ?_
          refine OpsW.q rfl (q_move (v := .int _ _) rfl) ?_
          refine OpsW.q rfl (q_addI rfl rfl (by omega)) ?_
          refine OpsW.q rfl (q_assign (v := .int _ _) rfl) ?_
          refine OpsW.nil ?_
          replace hS11 := hS11.del del0
          replace hS11 := hS11.del del0
          exact LoopP.go _ (by omega) ⟨i + 1, _, _, _, _, rfl, ⟨hI2, by omega⟩, Slots.eq ⟨(by first | rfl | exact i64_int (by omega) (by omega) (by omega) | assumption), (by first | rfl | exact i64_int (by omega) (by omega) (by omega) | assumption), (by first | rfl | exact i64_int (by omega) (by omega) (by omega) | assumption), (by first | rfl | exact i64_int (by omega) (by omega) (by omega) | assumption),  trivial⟩, hS11⟩
        ·
          rintro _ _ ⟨rfl, rfl⟩
          rw [hI2.mg]
          refine AnyW.onlyQG 16 rfl (by kernel_rfl) rfl (dst_lt rfl) (q_lenVec Try.underlying46 rfl (hS11.vec at0)) ?_
          refine AnyW.onlyQG 20 rfl (by kernel_rfl) rfl (dst_lt rfl) (q_neq rfl rfl) ?_
          refine AnyW.onlyQG 21 rfl (by kernel_rfl) rfl (dst_lt rfl) (q_or2 rfl rfl rfl) ?_
          refine AnyW.done (by kernel_rfl) ?_
          refine SeqP.go ?_
          refine AW.cond rfl (fun h6 => ?_) (fun h6 => ?_)
          ·
            exfalso
            try simp only [eb37, eb51, decide_eq_true_eq, decide_eq_false_iff_not, Bool.or_eq_true, Bool.and_eq_true, Bool.or_eq_false_iff, Bool.and_eq_false_imp, Bool.not_eq_true', Bool.not_eq_false', ne_eq, Decidable.not_not, Int.not_lt, Int.not_le, Bool.not_eq_true, Bool.not_eq_false] at h6
            simp [mkP] at h6
          try simp only [eb37, eb51, decide_eq_true_eq, decide_eq_false_iff_not, Bool.or_eq_true, Bool.and_eq_true, Bool.or_eq_false_iff, Bool.and_eq_false_imp, Bool.not_eq_true', Bool.not_eq_false', ne_eq, Decidable.not_not, Int.not_lt, Int.not_le, Bool.not_eq_true, Bool.not_eq_false] at h6
          refine AW.skip ?_
          refine BlockP.go ?_
          refine SeqP.go ?_
          refine AW.region ?_
          refine OpsW.q rfl (q_move (v := .int _ _) rfl) ?_
          refine OpsW.q rfl (q_addI rfl rfl (by omega)) ?_
          refine OpsW.q rfl (q_assign (v := .int _ _) rfl) ?_
          refine OpsW.nil ?_
          replace hS11 := hS11.del del0
          replace hS11 := hS11.del del0
          exact LoopP.go _ (by omega) ⟨i + 1, _, _, _, _, rfl, ⟨hI2, by omega⟩, Slots.eq ⟨(by first | rfl | exact i64_int (by omega) (by omega) (by omega) | assumption), (by first | rfl | exact i64_int (by omega) (by omega) (by omega) | assumption), (by first | rfl | exact i64_int (by omega) (by omega) (by omega) | assumption), (by first | rfl | exact i64_int (by omega) (by omega) (by omega) | assumption),  trivial⟩, hS11⟩
      ·
        rintro _ _ ⟨rfl, rfl⟩
        rw [hI2.mg]
        refine AnyW.onlyG 15 rfl (by kernel_rfl) rfl (dst_lt rfl) (o_call rfl Try.func19 rfl rfl (Of_c hS6 at2 (by have := hI2.len; omega))) ?_
        rintro v105 H12 hR12
        have hS12 := hS6.join hR12
        simp only [List.cons_append, List.nil_append] at hS12
        clear hR12 hS6
        refine AnyW.onlyQG 16 rfl (by kernel_rfl) rfl (dst_lt rfl) (q_lenVec Try.underlying46 rfl (hS12.vec at0)) ?_
        refine AnyW.onlyQG 20 rfl (by kernel_rfl) rfl (dst_lt rfl) (q_neq rfl rfl) ?_
        refine AnyW.onlyQG 21 rfl (by kernel_rfl) rfl (dst_lt rfl) (q_or2 rfl rfl rfl) ?_
        refine AnyW.done (by kernel_rfl) ?_
        refine SeqP.go ?_
        refine AW.cond rfl (fun h6 => ?_) (fun h6 => ?_)
        ·
          exfalso
          try simp only [eb37, eb51, decide_eq_true_eq, decide_eq_false_iff_not, Bool.or_eq_true, Bool.and_eq_true, Bool.or_eq_false_iff, Bool.and_eq_false_imp, Bool.not_eq_true', Bool.not_eq_false', ne_eq, Decidable.not_not, Int.not_lt, Int.not_le, Bool.not_eq_true, Bool.not_eq_false] at h6
          simp [mkP] at h6
        try simp only [eb37, eb51, decide_eq_true_eq, decide_eq_false_iff_not, Bool.or_eq_true, Bool.and_eq_true, Bool.or_eq_false_iff, Bool.and_eq_false_imp, Bool.not_eq_true', Bool.not_eq_false', ne_eq, Decidable.not_not, Int.not_lt, Int.not_le, Bool.not_eq_true, Bool.not_eq_false] at h6
        refine AW.skip ?_
        refine BlockP.go ?_
        refine SeqP.go ?_
        refine AW.region ?_
        refine OpsW.q rfl (q_move (v := .int _ _) rfl) ?_
        refine OpsW.q rfl (q_addI rfl rfl (by omega)) ?_
        refine OpsW.q rfl (q_assign (v := .int _ _) rfl) ?_
        refine OpsW.nil ?_
        replace hS12 := hS12.del del0
        replace hS12 := hS12.del del0
        exact LoopP.go _ (by omega) ⟨i + 1, _, _, _, _, rfl, ⟨hI2, by omega⟩, Slots.eq ⟨(by first | rfl | exact i64_int (by omega) (by omega) (by omega) | assumption), (by first | rfl | exact i64_int (by omega) (by omega) (by omega) | assumption), (by first | rfl | exact i64_int (by omega) (by omega) (by omega) | assumption), (by first | rfl | exact i64_int (by omega) (by omega) (by omega) | assumption),  trivial⟩, hS12⟩
    ·
      rintro _ _ ⟨rfl, rfl⟩
      rw [hI2.mg]
      refine AnyW.onlyQG 6 rfl (by kernel_rfl) rfl (dst_lt rfl) (o_call rfl Try.func18 rfl rfl (Mark_c hS6 at2)) ?_
      refine AnyW.onlyQG 10 rfl (by kernel_rfl) rfl (dst_lt rfl) (q_neq rfl rfl) ?_
      rw [decide_eq_false (not_not_intro (rfl : mkP (addS t x (sndB (o i).who) (o i).n (o i).dat).2.1.st.L (sndB (o i).who) = _))]
      refine AnyW.onlyQG 11 rfl (by kernel_rfl) rfl (dst_lt rfl) (q_or2 rfl rfl rfl) ?_
      refine AnyW.onlyQG 12 rfl (by kernel_rfl) rfl (dst_lt rfl) (q_move (v := .bool false) rfl) ?_
      refine AnyW.firstG 13 rfl (by kernel_rfl) (by kernel_rfl) (by kernel_rfl) rfl (dst_lt rfl) (v_move (v := .pointer _) rfl) ?_
      refine AnyW.firstG 14 rfl (by kernel_rfl) (by kernel_rfl) (by kernel_rfl) rfl (dst_lt rfl) (v_move (v := S _) rfl) ?_
      refine AnyW.firstG 17 rfl (by kernel_rfl) (by kernel_rfl) (by kernel_rfl) rfl (dst_lt rfl) (v_move (v := .map _) rfl) ?_
      refine AnyW.firstG 18 rfl (by kernel_rfl) (by kernel_rfl) (by kernel_rfl) rfl (dst_lt rfl) (v_move (v := S _) rfl) ?_
      refine AnyW.twoG 15 19 rfl rfl (by kernel_rfl) rfl rfl (dst_lt rfl) (dst_lt rfl) (o_call rfl Try.func19 rfl rfl (Of_c hS6 at2 (by have := hI2.len; omega))) (q_lookup (z := .int .i64 0) Try.underlying38 (key_str Try.underlying9) (by kernel_rfl) rfl rfl (hS6.blk at1)) ?_ ?_
      ·
        rintro v105 H13 hR13
        have hS13 := hS6.join hR13
        simp only [List.cons_append, List.nil_append] at hS13
        clear hR13 hS6
        refine AnyW.twoG 16 19 rfl rfl (by kernel_rfl) rfl rfl (dst_lt rfl) (dst_lt rfl) (q_lenVec Try.underlying46 rfl (hS13.vec at0)) (q_lookup (z := .int .i64 0) Try.underlying38 (key_str Try.underlying9) (by kernel_rfl) rfl rfl (hS13.blk at2)) ?_ ?_
        ·
          rintro _ _ ⟨rfl, rfl⟩
          refine AnyW.onlyQG 19 rfl (by kernel_rfl) rfl (dst_lt rfl) (q_lookup (z := .int .i64 0) Try.underlying38 (key_str Try.underlying9) (by kernel_rfl) rfl rfl (hS13.blk at2)) ?_
          rw [hI2.mg]
          refine AnyW.onlyQG 20 rfl (by kernel_rfl) rfl (dst_lt rfl) (q_neq rfl rfl) ?_
          refine AnyW.onlyQG 21 rfl (by kernel_rfl) rfl (dst_lt rfl) (q_or2 rfl rfl rfl) ?_
          refine AnyW.done (by kernel_rfl) ?_
          refine SeqP.go ?_
          refine AW.cond rfl (fun h6 => ?_) (fun h6 => ?_)
          ·
            exfalso
            try simp only [eb37, eb51, decide_eq_true_eq, decide_eq_false_iff_not, Bool.or_eq_true, Bool.and_eq_true, Bool.or_eq_false_iff, Bool.and_eq_false_imp, Bool.not_eq_true', Bool.not_eq_false', ne_eq, Decidable.not_not, Int.not_lt, Int.not_le, Bool.not_eq_true, Bool.not_eq_false] at h6
            simp [mkP] at h6
          try simp only [eb37, eb51, decide_eq_true_eq, decide_eq_false_iff_not, Bool.or_eq_true, Bool.and_eq_true, Bool.or_eq_false_iff, Bool.and_eq_false_imp, Bool.not_eq_true', Bool.not_eq_false', ne_eq, Decidable.not_not, Int.not_lt, Int.not_le, Bool.not_eq_true, Bool.not_eq_false] at h6
          refine AW.skip ?_
          refine BlockP.go ?_
          refine SeqP.go ?_
          refine AW.region ?_
          refine OpsW.q rfl (q_move (v := .int _ _) rfl) ?_
          refine OpsW.q rfl (q_addI rfl rfl (by omega)) ?_
          refine OpsW.q rfl (q_assign (v := .int _ _) rfl) ?_
          refine OpsW.nil ?_
          replace hS13 := hS13.del del0
          replace hS13 := hS13.del del0
          exact LoopP.go _ (by omega) ⟨i + 1, _, _, _, _, rfl, ⟨hI2, by omega⟩, Slots.eq ⟨(by first | rfl | exact i64_int (by omega) (by omega) (by omega) | assumption), (by first | rfl | exact i64_int (by omega) (by omega) (by omega) | assumption), (by first | rfl | exact i64_int (by omega) (by omega) (by omega) | assumption), (by first | rfl | exact i64_int (by omega) (by omega) (by omega) | assumption),  trivial⟩, hS13⟩
        ·
          rintro _ _ ⟨rfl, rfl⟩
          rw [hI2.mg]
          refine AnyW.onlyQG 16 rfl (by kernel_rfl) rfl (dst_lt rfl) (q_lenVec Try.underlying46 rfl (hS13.vec at0)) ?_
          refine AnyW.onlyQG 20 rfl (by kernel_rfl) rfl (dst_lt rfl) (q_neq rfl rfl) ?_
          refine AnyW.onlyQG 21 rfl (by kernel_rfl) rfl (dst_lt rfl) (q_or2 rfl rfl rfl) ?_
          refine AnyW.done (by kernel_rfl) ?_
          refine SeqP.go ?_
          refine AW.cond rfl (fun h6 => ?_) (fun h6 => ?_)
          ·
            exfalso
            try simp only [eb37, eb51, decide_eq_true_eq, decide_eq_false_iff_not, Bool.or_eq_true, Bool.and_eq_true, Bool.or_eq_false_iff, Bool.and_eq_false_imp, Bool.not_eq_true', Bool.not_eq_false', ne_eq, Decidable.not_not, Int.not_lt, Int.not_le, Bool.not_eq_true, Bool.not_eq_false] at h6
            simp [mkP] at h6
          try simp only [eb37, eb51, decide_eq_true_eq, decide_eq_false_iff_not, Bool.or_eq_true, Bool.and_eq_true, Bool.or_eq_false_iff, Bool.and_eq_false_imp, Bool.not_eq_true', Bool.not_eq_false', ne_eq, Decidable.not_not, Int.not_lt, Int.not_le, Bool.not_eq_true, Bool.not_eq_false] at h6
          refine AW.skip ?_
          refine BlockP.go ?_
          refine SeqP.go ?_
          refine AW.region ?_
          refine OpsW.q rfl (q_move (v := .int _ _) rfl) ?_
          refine OpsW.q rfl (q_addI rfl rfl (by omega)) ?_
          refine OpsW.q rfl (q_assign (v := .int _ _) rfl) ?_
          refine OpsW.nil ?_
          replace hS13 := hS13.del del0
          replace hS13 := hS13.del del0
          exact LoopP.go _ (by omega) ⟨i + 1, _, _, _, _, rfl, ⟨hI2, by omega⟩, Slots.eq ⟨(by first | rfl | exact i64_int (by omega) (by omega) (by omega) | assumption), (by first | rfl | exact i64_int (by omega) (by omega) (by omega) | assumption), (by first | rfl | exact i64_int (by omega) (by omega) (by omega) | assumption), (by first | rfl | exact i64_int (by omega) (by omega) (by omega) | assumption),  trivial⟩, hS13⟩
      ·
        rintro _ _ ⟨rfl, rfl⟩
        rw [hI2.mg]
        refine AnyW.onlyG 15 rfl (by kernel_rfl) rfl (dst_lt rfl) (o_call rfl Try.func19 rfl rfl (Of_c hS6 at2 (by have := hI2.len; omega))) ?_
        rintro v105 H14 hR14
        have hS14 := hS6.join hR14
        simp only [List.cons_append, List.nil_append] at hS14
        clear hR14 hS6
        refine AnyW.onlyQG 16 rfl (by kernel_rfl) rfl (dst_lt rfl) (q_lenVec Try.underlying46 rfl (hS14.vec at0)) ?_
        refine AnyW.onlyQG 20 rfl (by kernel_rfl) rfl (dst_lt rfl) (q_neq rfl rfl) ?_
        refine AnyW.onlyQG 21 rfl (by kernel_rfl) rfl (dst_lt rfl) (q_or2 rfl rfl rfl) ?_
        refine AnyW.done (by kernel_rfl) ?_
        refine SeqP.go ?_
        refine AW.cond rfl (fun h6 => ?_) (fun h6 => ?_)
        ·
          exfalso
          try simp only [eb37, eb51, decide_eq_true_eq, decide_eq_false_iff_not, Bool.or_eq_true, Bool.and_eq_true, Bool.or_eq_false_iff, Bool.and_eq_false_imp, Bool.not_eq_true', Bool.not_eq_false', ne_eq, Decidable.not_not, Int.not_lt, Int.not_le, Bool.not_eq_true, Bool.not_eq_false] at h6
          simp [mkP] at h6
        try simp only [eb37, eb51, decide_eq_true_eq, decide_eq_false_iff_not, Bool.or_eq_true, Bool.and_eq_true, Bool.or_eq_false_iff, Bool.and_eq_false_imp, Bool.not_eq_true', Bool.not_eq_false', ne_eq, Decidable.not_not, Int.not_lt, Int.not_le, Bool.not_eq_true, Bool.not_eq_false] at h6
        refine AW.skip ?_
        refine BlockP.go ?_
        refine SeqP.go ?_
        refine AW.region ?_
        refine OpsW.q rfl (q_move (v := .int _ _) rfl) ?_
        refine OpsW.q rfl (q_addI rfl rfl (by omega)) ?_
        refine OpsW.q rfl (q_assign (v := .int _ _) rfl) ?_
        refine OpsW.nil ?_
        replace hS14 := hS14.del del0
        replace hS14 := hS14.del del0
        exact LoopP.go _ (by omega) ⟨i + 1, _, _, _, _, rfl, ⟨hI2, by omega⟩, Slots.eq ⟨(by first | rfl | exact i64_int (by omega) (by omega) (by omega) | assumption), (by first | rfl | exact i64_int (by omega) (by omega) (by omega) | assumption), (by first | rfl | exact i64_int (by omega) (by omega) (by omega) | assumption), (by first | rfl | exact i64_int (by omega) (by omega) (by omega) | assumption),  trivial⟩, hS14⟩
  try simp only [eb37, eb51, decide_eq_true_eq, decide_eq_false_iff_not, Bool.or_eq_true, Bool.and_eq_true, Bool.or_eq_false_iff, Bool.and_eq_false_imp, Bool.not_eq_true', Bool.not_eq_false', ne_eq, Decidable.not_not, Int.not_lt, Int.not_le, Bool.not_eq_true, Bool.not_eq_false] at h4
  refine AW.seq ?_
  refine AW.region ?_
  refine OpsW.q rfl (q_fieldAddr (sz := 0) Try.underlying40 rfl (by kernel_rfl) rfl) ?_
  refine OpsW.q rfl (q_load (v := .int _ _) (by kernel_rfl) rfl (hS6.blk at0) rfl) ?_
  refine OpsW.q rfl (q_subI rfl rfl (by omega)) ?_
  refine OpsW.q rfl (q_move (v := .map _) rfl) ?_
  refine OpsW.q rfl (q_move (v := S _) rfl) ?_
  refine OpsW.q rfl (q_lookup (z := .int .i64 0) Try.underlying38 (key_str Try.underlying9) (by kernel_rfl) rfl rfl (hS6.blk at1)) ?_
  rw [hI.mg]
  refine OpsW.q rfl (q_eql rfl rfl) ?_
  refine OpsW.nil ?_
  refine SeqP.go ?_
  refine AW.cond rfl (fun h5 => ?_) (fun h5 => ?_)
  ·
    try simp only [eb37, eb51, decide_eq_true_eq, decide_eq_false_iff_not, Bool.or_eq_true, Bool.and_eq_true, Bool.or_eq_false_iff, Bool.and_eq_false_imp, Bool.not_eq_true', Bool.not_eq_false', ne_eq, Decidable.not_not, Int.not_lt, Int.not_le, Bool.not_eq_true, Bool.not_eq_false] at h5
    obtain ⟨he, hI2⟩ := marks_yes (k := (o i).who) (n := (o i).n) (d := (o i).dat) hI (by omega) hn1 hdl (by omega)
    refine AW.region ?_
    refine OpsW.q rfl (q_move (v := .map _) rfl) ?_
    refine OpsW.q rfl (q_move (v := S _) rfl) ?_
    refine OpsW.q rfl (q_fieldAddr (sz := 0) Try.underlying40 rfl (by kernel_rfl) rfl) ?_
    refine OpsW.q rfl (q_load (v := .int _ _) (by kernel_rfl) rfl (hS6.blk at0) rfl) ?_
    refine OpsW.ms (s_mapUpdate (u := .int _ _) hS6 at1 Try.underlying38 (key_str Try.underlying9) rfl rfl rfl) ?_
    rintro _ H15 ⟨rfl, hS15⟩
    clear hS6
    refine OpsW.nil ?_
    refine SeqP.go ?_
    refine AW.seq ?_
    refine AW.steps rfl 22 rfl ?_
    refine AnyW.firstG 0 rfl (by kernel_rfl) (by kernel_rfl) (by kernel_rfl) rfl (dst_lt rfl) (v_move (v := .int _ _) rfl) ?_
    refine AnyW.onlyQG 1 rfl (by kernel_rfl) rfl (dst_lt rfl) (q_move (v := .int _ _) rfl) ?_
    refine AnyW.onlyQG 2 rfl (by kernel_rfl) rfl (dst_lt rfl) (q_neq rfl rfl) ?_
    rw [he]
    refine AnyW.onlyQG 3 rfl (by kernel_rfl) rfl (dst_lt rfl) (q_move (v := .bool false) rfl) ?_
    refine AnyW.firstG 4 rfl (by kernel_rfl) (by kernel_rfl) (by kernel_rfl) rfl (dst_lt rfl) (v_move (v := .pointer _) rfl) ?_
    refine AnyW.firstG 5 rfl (by kernel_rfl) (by kernel_rfl) (by kernel_rfl) rfl (dst_lt rfl) (v_move (v := S _) rfl) ?_
    refine AnyW.firstG 7 rfl (by kernel_rfl) (by kernel_rfl) (by kernel_rfl) rfl (dst_lt rfl) (v_move (v := .map _) rfl) ?_
    refine AnyW.firstG 8 rfl (by kernel_rfl) (by kernel_rfl) (by kernel_rfl) rfl (dst_lt rfl) (v_move (v := S _) rfl) ?_
    refine AnyW.twoG 6 9 rfl rfl (by kernel_rfl) rfl rfl (dst_lt rfl) (dst_lt rfl) (o_call rfl Try.func18 rfl rfl (Mark_c hS15 at2)) (q_lookup (z := .int .i64 0) Try.underlying38 (key_str Try.underlying9) (by kernel_rfl) rfl rfl (hS15.blk at1)) ?_ ?_
    ·
      rintro _ _ ⟨rfl, rfl⟩
      refine AnyW.onlyQG 9 rfl (by kernel_rfl) rfl (dst_lt rfl) (q_lookup (z := .int .i64 0) Try.underlying38 (key_str Try.underlying9) (by kernel_rfl) rfl rfl (hS15.blk at1)) ?_
      rw [hI2.mg]
      refine AnyW.onlyQG 10 rfl (by kernel_rfl) rfl (dst_lt rfl) (q_neq rfl rfl) ?_
      rw [decide_eq_false (not_not_intro (rfl : mkP (addS t x (sndB (o i).who) (o i).n (o i).dat).2.1.st.L (sndB (o i).who) = _))]
      refine AnyW.onlyQG 11 rfl (by kernel_rfl) rfl (dst_lt rfl) (q_or2 rfl rfl rfl) ?_
      refine AnyW.onlyQG 12 rfl (by kernel_rfl) rfl (dst_lt rfl) (q_move (v := .bool false) rfl) ?_
      refine AnyW.firstG 13 rfl (by kernel_rfl) (by kernel_rfl) (by kernel_rfl) rfl (dst_lt rfl) (v_move (v := .pointer _) rfl) ?_
      refine AnyW.firstG 14 rfl (by kernel_rfl) (by kernel_rfl) (by kernel_rfl) rfl (dst_lt rfl) (v_move (v := S _) rfl) ?_
      refine AnyW.firstG 17 rfl (by kernel_rfl) (by kernel_rfl) (by kernel_rfl) rfl (dst_lt rfl) (v_move (v := .map _) rfl) ?_
      refine AnyW.firstG 18 rfl (by kernel_rfl) (by kernel_rfl) (by kernel_rfl) rfl (dst_lt rfl) (v_move (v := S _) rfl) ?_
      refine AnyW.twoG 15 19 rfl rfl (by kernel_rfl) rfl rfl (dst_lt rfl) (dst_lt rfl) (o_call rfl Try.func19 rfl rfl (Of_c hS15 at2 (by have := hI2.len; omega))) (q_lookup (z := .int .i64 0) Try.underlying38 (key_str Try.underlying9) (by kernel_rfl) rfl rfl (hS15.blk at1)) ?_ ?_
      ·
        rintro v105 H16 hR16
        have hS16 := hS15.join hR16
        simp only [List.cons_append, List.nil_append] at hS16
        clear hR16 hS15
        refine AnyW.twoG 16 19 rfl rfl (by kernel_rfl) rfl rfl (dst_lt rfl) (dst_lt rfl) (q_lenVec Try.underlying46 rfl (hS16.vec at0)) (q_lookup (z := .int .i64 0) Try.underlying38 (key_str Try.underlying9) (by kernel_rfl) rfl rfl (hS16.blk at2)) ?_ ?_
        ·
          rintro _ _ ⟨rfl, rfl⟩
          refine AnyW.onlyQG 19 rfl (by kernel_rfl) rfl (dst_lt rfl) (q_lookup (z := .int .i64 0) Try.underlying38 (key_str Try.underlying9) (by kernel_rfl) rfl rfl (hS16.blk at2)) ?_
          rw [hI2.mg]
          refine AnyW.onlyQG 20 rfl (by kernel_rfl) rfl (dst_lt rfl) (q_neq rfl rfl) ?_
          refine AnyW.onlyQG 21 rfl (by kernel_rfl) rfl (dst_lt rfl) (q_or2 rfl rfl rfl) ?_
          refine AnyW.done (by kernel_rfl) ?_
          refine SeqP.go ?_
          refine AW.cond rfl (fun h6 => ?_) (fun h6 => ?_)
          ·
            exfalso
            try simp only [eb37, eb51, decide_eq_true_eq, decide_eq_false_iff_not, Bool.or_eq_true, Bool.and_eq_true, Bool.or_eq_false_iff, Bool.and_eq_false_imp, Bool.not_eq_true', Bool.not_eq_false', ne_eq, Decidable.not_not, Int.not_lt, Int.not_le, Bool.not_eq_true, Bool.not_eq_false] at h6
            simp [mkP] at h6
          try simp only [eb37, eb51, decide_eq_true_eq, decide_eq_false_iff_not, Bool.or_eq_true, Bool.and_eq_true, Bool.or_eq_false_iff, Bool.and_eq_false_imp, Bool.not_eq_true', Bool.not_eq_false', ne_eq, Decidable.not_not, Int.not_lt, Int.not_le, Bool.not_eq_true, Bool.not_eq_false] at h6
          refine AW.skip ?_
          refine BlockP.go ?_
          refine SeqP.go ?_
          refine AW.region ?_
          refine OpsW.q rfl (q_move (v := .int _ _) rfl) ?_
          refine OpsW.q rfl (q_addI rfl rfl (by omega)) ?_
          refine OpsW.q rfl (q_assign (v := .int _ _) rfl) ?_
          refine OpsW.nil ?_
          replace hS16 := hS16.del del0
          replace hS16 := hS16.del del0
          exact LoopP.go _ (by omega) ⟨i + 1, _, _, _, _, rfl, ⟨hI2, by omega⟩, Slots.eq ⟨(by first | rfl | exact i64_int (by omega) (by omega) (by omega) | assumption), (by first | rfl | exact i64_int (by omega) (by omega) (by omega) | assumption), (by first | rfl | exact i64_int (by omega) (by omega) (by omega) | assumption), (by first | rfl | exact i64_int (by omega) (by omega) (by omega) | assumption),  trivial⟩, hS16⟩
        ·
          rintro _ _ ⟨rfl, rfl⟩
          rw [hI2.mg]
          refine AnyW.onlyQG 16 rfl (by kernel_rfl) rfl (dst_lt rfl) (q_lenVec Try.underlying46 rfl (hS16.vec at0)) ?_
          refine AnyW.onlyQG 20 rfl (by kernel_rfl) rfl (dst_lt rfl) (q_neq rfl rfl) ?_
          refine AnyW.onlyQG 21 rfl (by kernel_rfl) rfl (dst_lt rfl) (q_or2 rfl rfl rfl) ?_
          refine AnyW.done (by kernel_rfl) ?_
          refine SeqP.go ?_
          refine AW.cond rfl (fun h6 => ?_) (fun h6 => ?_)
          ·
            exfalso
            try simp only [eb37, eb51, decide_eq_true_eq, decide_eq_false_iff_not, Bool.or_eq_true, Bool.and_eq_true, Bool.or_eq_false_iff, Bool.and_eq_false_imp, Bool.not_eq_true', Bool.not_eq_false', ne_eq, Decidable.not_not, Int.not_lt, Int.not_le, Bool.not_eq_true, Bool.not_eq_false] at h6
            simp [mkP] at h6
          try simp only [eb37, eb51, decide_eq_true_eq, decide_eq_false_iff_not, Bool.or_eq_true, Bool.and_eq_true, Bool.or_eq_false_iff, Bool.and_eq_false_imp, Bool.not_eq_true', Bool.not_eq_false', ne_eq, Decidable.not_not, Int.not_lt, Int.not_le, Bool.not_eq_true, Bool.not_eq_false] at h6
          refine AW.skip ?_
          refine BlockP.go ?_
          refine SeqP.go ?_
          refine AW.region ?_
          refine OpsW.q rfl (q_move (v := .int _ _) rfl) ?_
          refine OpsW.q rfl (q_addI rfl rfl (by omega)) ?_
          refine OpsW.q rfl (q_assign (v := .int _ _) rfl) ?_
          refine OpsW.nil ?_
          replace hS16 := hS16.del del0
          replace hS16 := hS16.del del0
          exact LoopP.go _ (by omega) ⟨i + 1, _, _, _, _, rfl, ⟨hI2, by omega⟩, Slots.eq ⟨(by first | rfl | exact i64_int (by omega) (by omega) (by omega) | assumption), (by first | rfl | exact i64_int (by omega) (by omega) (by omega) | assumption), (by first | rfl | exact i64_int (by omega) (by omega) (by omega) | assumption), (by first | rfl | exact i64_int (by omega) (by omega) (by omega) | assumption),  trivial⟩, hS16⟩
      ·
        rintro _ _ ⟨rfl, rfl⟩
        rw [hI2.mg]
        refine AnyW.onlyG 15 rfl (by kernel_rfl) rfl (dst_lt rfl) (o_call rfl Try.func19 rfl rfl (Of_c hS15 at2 (by have := hI2.len; omega))) ?_
        rintro v105 H17 hR17
        have hS17 := hS15.join hR17
        simp only [List.cons_append, List.nil_append] at hS17
        clear hR17 hS15
        refine AnyW.onlyQG 16 rfl (by kernel_rfl) rfl (dst_lt rfl) (q_lenVec Try.underlying46 rfl (hS17.vec at0)) ?_
        refine AnyW.onlyQG 20 rfl (by kernel_rfl) rfl (dst_lt rfl) (q_neq rfl rfl) ?_
        refine AnyW.onlyQG 21 rfl (by kernel_rfl) rfl (dst_lt rfl) (q_or2 rfl rfl rfl) ?_
        refine AnyW.done (by kernel_rfl) ?_
        refine SeqP.go ?_
        refine AW.cond rfl (fun h6 => ?_) (fun h6 => ?_)
        ·
          exfalso
          try simp only [eb37, eb51, decide_eq_true_eq, decide_eq_false_iff_not, Bool.or_eq_true, Bool.and_eq_true, Bool.or_eq_false_iff, Bool.and_eq_false_imp, Bool.not_eq_true', Bool.not_eq_false', ne_eq, Decidable.not_not, Int.not_lt, Int.not_le, Bool.not_eq_true, Bool.not_eq_false] at h6
          simp [mkP] at h6
        try simp only [eb37, eb51, decide_eq_true_eq, decide_eq_false_iff_not, Bool.or_eq_true, Bool.and_eq_true, Bool.or_eq_false_iff, Bool.and_eq_false_imp, Bool.not_eq_true', Bool.not_eq_false', ne_eq, Decidable.not_not, Int.not_lt, Int.not_le, Bool.not_eq_true, Bool.not_eq_false] at h6
        refine AW.skip ?_
        refine BlockP.go ?_
        refine SeqP.go ?_
        refine AW.region ?_
        refine OpsW.q rfl (q_move (v := .int _ _) rfl) ?_
        refine OpsW.q rfl (q_addI rfl rfl (by omega)) ?_
        refine OpsW.q rfl (q_assign (v := .int _ _) rfl) ?_
        refine OpsW.nil ?_
        replace hS17 := hS17.del del0
        replace hS17 := hS17.del del0
        exact LoopP.go _ (by omega) ⟨i + 1, _, _, _, _, rfl, ⟨hI2, by omega⟩, Slots.eq ⟨(by first | rfl | exact i64_int (by omega) (by omega) (by omega) | assumption), (by first | rfl | exact i64_int (by omega) (by omega) (by omega) | assumption), (by first | rfl | exact i64_int (by omega) (by omega) (by omega) | assumption), (by first | rfl | exact i64_int (by omega) (by omega) (by omega) | assumption),  trivial⟩, hS17⟩
    ·
      rintro _ _ ⟨rfl, rfl⟩
      rw [hI2.mg]
      refine AnyW.onlyQG 6 rfl (by kernel_rfl) rfl (dst_lt rfl) (o_call rfl Try.func18 rfl rfl (Mark_c hS15 at2)) ?_
      refine AnyW.onlyQG 10 rfl (by kernel_rfl) rfl (dst_lt rfl) (q_neq rfl rfl) ?_
      rw [decide_eq_false (not_not_intro (rfl : mkP (addS t x (sndB (o i).who) (o i).n (o i).dat).2.1.st.L (sndB (o i).who) = _))]
      refine AnyW.onlyQG 11 rfl (by kernel_rfl) rfl (dst_lt rfl) (q_or2 rfl rfl rfl) ?_
      refine AnyW.onlyQG 12 rfl (by kernel_rfl) rfl (dst_lt rfl) (q_move (v := .bool false) rfl) ?_
      refine AnyW.firstG 13 rfl (by kernel_rfl) (by kernel_rfl) (by kernel_rfl) rfl (dst_lt rfl) (v_move (v := .pointer _) rfl) ?_
      refine AnyW.firstG 14 rfl (by kernel_rfl) (by kernel_rfl) (by kernel_rfl) rfl (dst_lt rfl) (v_move (v := S _) rfl) ?_
      refine AnyW.firstG 17 rfl (by kernel_rfl) (by kernel_rfl) (by kernel_rfl) rfl (dst_lt rfl) (v_move (v := .map _) rfl) ?_
      refine AnyW.firstG 18 rfl (by kernel_rfl) (by kernel_rfl) (by kernel_rfl) rfl (dst_lt rfl) (v_move (v := S _) rfl) ?_
      refine AnyW.twoG 15 19 rfl rfl (by kernel_rfl) rfl rfl (dst_lt rfl) (dst_lt rfl) (o_call rfl Try.func19 rfl rfl (Of_c hS15 at2 (by have := hI2.len; omega))) (q_lookup (z := .int .i64 0) Try.underlying38 (key_str Try.underlying9) (by kernel_rfl) rfl rfl (hS15.blk at1)) ?_ ?_
      ·
        rintro v105 H18 hR18
        have hS18 := hS15.join hR18
        simp only [List.cons_append, List.nil_append] at hS18
        clear hR18 hS15
        refine AnyW.twoG 16 19 rfl rfl (by kernel_rfl) rfl rfl (dst_lt rfl) (dst_lt rfl) (q_lenVec Try.underlying46 rfl (hS18.vec at0)) (q_lookup (z := .int .i64 0) Try.underlying38 (key_str Try.underlying9) (by kernel_rfl) rfl rfl (hS18.blk at2)) ?_ ?_
        ·
          rintro _ _ ⟨rfl, rfl⟩
          refine AnyW.onlyQG 19 rfl (by kernel_rfl) rfl (dst_lt rfl) (q_lookup (z := .int .i64 0) Try.underlying38 (key_str Try.underlying9) (by kernel_rfl) rfl rfl (hS18.blk at2)) ?_
          rw [hI2.mg]
          refine AnyW.onlyQG 20 rfl (by kernel_rfl) rfl (dst_lt rfl) (q_neq rfl rfl) ?_
          refine AnyW.onlyQG 21 rfl (by kernel_rfl) rfl (dst_lt rfl) (q_or2 rfl rfl rfl) ?_
          refine AnyW.done (by kernel_rfl) ?_
          refine SeqP.go ?_
          refine AW.cond rfl (fun h6 => ?_) (fun h6 => ?_)
          ·
            exfalso
            try simp only [eb37, eb51, decide_eq_true_eq, decide_eq_false_iff_not, Bool.or_eq_true, Bool.and_eq_true, Bool.or_eq_false_iff, Bool.and_eq_false_imp, Bool.not_eq_true', Bool.not_eq_false', ne_eq, Decidable.not_not, Int.not_lt, Int.not_le, Bool.not_eq_true, Bool.not_eq_false] at h6
            simp [mkP] at h6
          try simp only [eb37, eb51, decide_eq_true_eq, decide_eq_false_iff_not, Bool.or_eq_true, Bool.and_eq_true, Bool.or_eq_false_iff, Bool.and_eq_false_imp, Bool.not_eq_true', Bool.not_eq_false', ne_eq, Decidable.not_not, Int.not_lt, Int.not_le, Bool.not_eq_true, Bool.not_eq_false] at h6
          refine AW.skip ?_
          refine BlockP.go ?_
          refine SeqP.go ?_
          refine AW.region ?_
          refine OpsW.q rfl (q_move (v := .int _ _) rfl) ?_
          refine OpsW.q rfl (q_addI rfl rfl (by omega)) ?_
          refine OpsW.q rfl (q_assign (v := .int _ _) rfl) ?_
          refine OpsW.nil ?_
          replace hS18 := hS18.del del0
          replace hS18 := hS18.del del0
          exact LoopP.go _ (by omega) ⟨i + 1, _, _, _, _, rfl, ⟨hI2, by omega⟩, Slots.eq ⟨(by first | rfl | exact i64_int (by omega) (by omega) (by omega) | assumption), (by first | rfl | exact i64_int (by omega) (by omega) (by omega) | assumption), (by first | rfl | exact i64_int (by omega) (by omega) (by omega) | assumption), (by first | rfl | exact i64_int (by omega) (by omega) (by omega) | assumption),  trivial⟩, hS18⟩
        ·
          rintro _ _ ⟨rfl, rfl⟩
          rw [hI2.mg]
          refine AnyW.onlyQG 16 rfl (by kernel_rfl) rfl (dst_lt rfl) (q_lenVec Try.underlying46 rfl (hS18.vec at0)) ?_
          refine AnyW.onlyQG 20 rfl (by kernel_rfl) rfl (dst_lt rfl) (q_neq rfl rfl) ?_
          refine AnyW.onlyQG 21 rfl (by kernel_rfl) rfl (dst_lt rfl) (q_or2 rfl rfl rfl) ?_
          refine AnyW.done (by kernel_rfl) ?_
          refine SeqP.go ?_
          refine AW.cond rfl (fun h6 => ?_) (fun h6 => ?_)
          ·
            exfalso
            try simp only [eb37, eb51, decide_eq_true_eq, decide_eq_false_iff_not, Bool.or_eq_true, Bool.and_eq_true, Bool.or_eq_false_iff, Bool.and_eq_false_imp, Bool.not_eq_true', Bool.not_eq_false', ne_eq, Decidable.not_not, Int.not_lt, Int.not_le, Bool.not_eq_true, Bool.not_eq_false] at h6
            simp [mkP] at h6
          try simp only [eb37, eb51, decide_eq_true_eq, decide_eq_false_iff_not, Bool.or_eq_true, Bool.and_eq_true, Bool.or_eq_false_iff, Bool.and_eq_false_imp, Bool.not_eq_true', Bool.not_eq_false', ne_eq, Decidable.not_not, Int.not_lt, Int.not_le, Bool.not_eq_true, Bool.not_eq_false] at h6
          refine AW.skip ?_
          refine BlockP.go ?_
          refine SeqP.go ?_
          refine AW.region ?_
          refine OpsW.q rfl (q_move (v := .int _ _) rfl) ?_
          refine OpsW.q rfl (q_addI rfl rfl (by omega)) ?_
          refine OpsW.q rfl (q_assign (v := .int _ _) rfl) ?_
          refine OpsW.nil ?_
          replace hS18 := hS18.del del0
          replace hS18 := hS18.del del0
          exact LoopP.go _ (by omega) ⟨i + 1, _, _, _, _, rfl, ⟨hI2, by omega⟩, Slots.eq ⟨(by first | rfl | exact i64_int (by omega) (by omega) (by omega) | assumption), (by first | rfl | exact i64_int (by omega) (by omega) (by omega) | assumption), (by first | rfl | exact i64_int (by omega) (by omega) (by omega) | assumption), (by first | rfl | exact i64_int (by omega) (by omega) (by omega) | assumption),  trivial⟩, hS18⟩
      ·
        rintro _ _ ⟨rfl, rfl⟩
        rw [hI2.mg]
        refine AnyW.onlyG 15 rfl (by kernel_rfl) rfl (dst_lt rfl) (o_call rfl Try.func19 rfl rfl (Of_c hS15 at2 (by have := hI2.len; omega))) ?_
        rintro v105 H19 hR19
        have hS19 := hS15.join hR19
        simp only [List.cons_append, List.nil_append] at hS19
        clear hR19 hS15
        refine AnyW.onlyQG 16 rfl (by kernel_rfl) rfl (dst_lt rfl) (q_lenVec Try.underlying46 rfl (hS19.vec at0)) ?_
        refine AnyW.onlyQG 20 rfl (by kernel_rfl) rfl (dst_lt rfl) (q_neq rfl rfl) ?_
        refine AnyW.onlyQG 21 rfl (by kernel_rfl) rfl (dst_lt rfl) (q_or2 rfl rfl rfl) ?_
        refine AnyW.done (by kernel_rfl) ?_
        refine SeqP.go ?_
        refine AW.cond rfl (fun h6 => ?_) (fun h6 => ?_)
        ·
          exfalso
          try simp only [eb37, eb51, decide_eq_true_eq, decide_eq_false_iff_not, Bool.or_eq_true, Bool.and_eq_true, Bool.or_eq_false_iff, Bool.and_eq_false_imp, Bool.not_eq_true', Bool.not_eq_false', ne_eq, Decidable.not_not, Int.not_lt, Int.not_le, Bool.not_eq_true, Bool.not_eq_false] at h6
          simp [mkP] at h6
        try simp only [eb37, eb51, decide_eq_true_eq, decide_eq_false_iff_not, Bool.or_eq_true, Bool.and_eq_true, Bool.or_eq_false_iff, Bool.and_eq_false_imp, Bool.not_eq_true', Bool.not_eq_false', ne_eq, Decidable.not_not, Int.not_lt, Int.not_le, Bool.not_eq_true, Bool.not_eq_false] at h6
        refine AW.skip ?_
        refine BlockP.go ?_
        refine SeqP.go ?_
        refine AW.region ?_
        refine OpsW.q rfl (q_move (v := .int _ _) rfl) ?_
        refine OpsW.q rfl (q_addI rfl rfl (by omega)) ?_
        refine OpsW.q rfl (q_assign (v := .int _ _) rfl) ?_
        refine OpsW.nil ?_
        replace hS19 := hS19.del del0
        replace hS19 := hS19.del del0
        exact LoopP.go _ (by omega) ⟨i + 1, _, _, _, _, rfl, ⟨hI2, by omega⟩, Slots.eq ⟨(by first | rfl | exact i64_int (by omega) (by omega) (by omega) | assumption), (by first | rfl | exact i64_int (by omega) (by omega) (by omega) | assumption), (by first | rfl | exact i64_int (by omega) (by omega) (by omega) | assumption), (by first | rfl | exact i64_int (by omega) (by omega) (by omega) | assumption),  trivial⟩, hS19⟩
  try simp only [eb37, eb51, decide_eq_true_eq, decide_eq_false_iff_not, Bool.or_eq_true, Bool.and_eq_true, Bool.or_eq_false_iff, Bool.and_eq_false_imp, Bool.not_eq_true', Bool.not_eq_false', ne_eq, Decidable.not_not, Int.not_lt, Int.not_le, Bool.not_eq_true, Bool.not_eq_false] at h5
  obtain ⟨he, hI2⟩ := marks_old (k := (o i).who) (n := (o i).n) (d := (o i).dat) hI hn1 hdl (by omega)
  refine AW.skip ?_
  refine SeqP.go ?_
  refine AW.seq ?_
  refine AW.steps rfl 22 rfl ?_
  refine AnyW.firstG 0 rfl (by kernel_rfl) (by kernel_rfl) (by kernel_rfl) rfl (dst_lt rfl) (v_move (v := .int _ _) rfl) ?_
  refine AnyW.onlyQG 1 rfl (by kernel_rfl) rfl (dst_lt rfl) (q_move (v := .int _ _) rfl) ?_
  refine AnyW.onlyQG 2 rfl (by kernel_rfl) rfl (dst_lt rfl) (q_neq rfl rfl) ?_
  rw [he]
  refine AnyW.onlyQG 3 rfl (by kernel_rfl) rfl (dst_lt rfl) (q_move (v := .bool false) rfl) ?_
  refine AnyW.firstG 4 rfl (by kernel_rfl) (by kernel_rfl) (by kernel_rfl) rfl (dst_lt rfl) (v_move (v := .pointer _) rfl) ?_
  refine AnyW.firstG 5 rfl (by kernel_rfl) (by kernel_rfl) (by kernel_rfl) rfl (dst_lt rfl) (v_move (v := S _) rfl) ?_
  refine AnyW.firstG 7 rfl (by kernel_rfl) (by kernel_rfl) (by kernel_rfl) rfl (dst_lt rfl) (v_move (v := .map _) rfl) ?_
  refine AnyW.firstG 8 rfl (by kernel_rfl) (by kernel_rfl) (by kernel_rfl) rfl (dst_lt rfl) (v_move (v := S _) rfl) ?_
  refine AnyW.twoG 6 9 rfl rfl (by kernel_rfl) rfl rfl (dst_lt rfl) (dst_lt rfl) (o_call rfl Try.func18 rfl rfl (Mark_c hS6 at2)) (q_lookup (z := .int .i64 0) Try.underlying38 (key_str Try.underlying9) (by kernel_rfl) rfl rfl (hS6.blk at1)) ?_ ?_
  ·
    rintro _ _ ⟨rfl, rfl⟩
    refine AnyW.onlyQG 9 rfl (by kernel_rfl) rfl (dst_lt rfl) (q_lookup (z := .int .i64 0) Try.underlying38 (key_str Try.underlying9) (by kernel_rfl) rfl rfl (hS6.blk at1)) ?_
    rw [hI2.mg]
    refine AnyW.onlyQG 10 rfl (by kernel_rfl) rfl (dst_lt rfl) (q_neq rfl rfl) ?_
    rw [decide_eq_false (not_not_intro (rfl : mkP (addS t x (sndB (o i).who) (o i).n (o i).dat).2.1.st.L (sndB (o i).who) = _))]
    refine AnyW.onlyQG 11 rfl (by kernel_rfl) rfl (dst_lt rfl) (q_or2 rfl rfl rfl) ?_
    refine AnyW.onlyQG 12 rfl (by kernel_rfl) rfl (dst_lt rfl) (q_move (v := .bool false) rfl) ?_
    refine AnyW.firstG 13 rfl (by kernel_rfl) (by kernel_rfl) (by kernel_rfl) rfl (dst_lt rfl) (v_move (v := .pointer _) rfl) ?_
    refine AnyW.firstG 14 rfl (by kernel_rfl) (by kernel_rfl) (by kernel_rfl) rfl (dst_lt rfl) (v_move (v := S _) rfl) ?_
    refine AnyW.firstG 17 rfl (by kernel_rfl) (by kernel_rfl) (by kernel_rfl) rfl (dst_lt rfl) (v_move (v := .map _) rfl) ?_
    refine AnyW.firstG 18 rfl (by kernel_rfl) (by kernel_rfl) (by kernel_rfl) rfl (dst_lt rfl) (v_move (v := S _) rfl) ?_
    refine AnyW.twoG 15 19 rfl rfl (by kernel_rfl) rfl rfl (dst_lt rfl) (dst_lt rfl) (o_call rfl Try.func19 rfl rfl (Of_c hS6 at2 (by have := hI2.len; omega))) (q_lookup (z := .int .i64 0) Try.underlying38 (key_str Try.underlying9) (by kernel_rfl) rfl rfl (hS6.blk at1)) ?_ ?_
    ·
      rintro v105 H20 hR20
      have hS20 := hS6.join hR20
      simp only [List.cons_append, List.nil_append] at hS20
      clear hR20 hS6
      refine AnyW.twoG 16 19 rfl rfl (by kernel_rfl) rfl rfl (dst_lt rfl) (dst_lt rfl) (q_lenVec Try.underlying46 rfl (hS20.vec at0)) (q_lookup (z := .int .i64 0) Try.underlying38 (key_str Try.underlying9) (by kernel_rfl) rfl rfl (hS20.blk at2)) ?_ ?_
      ·
        rintro _ _ ⟨rfl, rfl⟩
        refine AnyW.onlyQG 19 rfl (by kernel_rfl) rfl (dst_lt rfl) (q_lookup (z := .int .i64 0) Try.underlying38 (key_str Try.underlying9) (by kernel_rfl) rfl rfl (hS20.blk at2)) ?_
        rw [hI2.mg]
        refine AnyW.onlyQG 20 rfl (by kernel_rfl) rfl (dst_lt rfl) (q_neq rfl rfl) ?_
        refine AnyW.onlyQG 21 rfl (by kernel_rfl) rfl (dst_lt rfl) (q_or2 rfl rfl rfl) ?_
        refine AnyW.done (by kernel_rfl) ?_
        refine SeqP.go ?_
        refine AW.cond rfl (fun h6 => ?_) (fun h6 => ?_)
        ·
          exfalso
          try simp only [eb37, eb51, decide_eq_true_eq, decide_eq_false_iff_not, Bool.or_eq_true, Bool.and_eq_true, Bool.or_eq_false_iff, Bool.and_eq_false_imp, Bool.not_eq_true', Bool.not_eq_false', ne_eq, Decidable.not_not, Int.not_lt, Int.not_le, Bool.not_eq_true, Bool.not_eq_false] at h6
          simp [mkP] at h6
        try simp only [eb37, eb51, decide_eq_true_eq, decide_eq_false_iff_not, Bool.or_eq_true, Bool.and_eq_true, Bool.or_eq_false_iff, Bool.and_eq_false_imp, Bool.not_eq_true', Bool.not_eq_false', ne_eq, Decidable.not_not, Int.not_lt, Int.not_le, Bool.not_eq_true, Bool.not_eq_false] at h6
        refine AW.skip ?_
        refine BlockP.go ?_
        refine SeqP.go ?_
        refine AW.region ?_
        refine OpsW.q rfl (q_move (v := .int _ _) rfl) ?_
        refine OpsW.q rfl (q_addI rfl rfl (by omega)) ?_
        refine OpsW.q rfl (q_assign (v := .int _ _) rfl) ?_
        refine OpsW.nil ?_
        replace hS20 := hS20.del del0
        replace hS20 := hS20.del del0
        exact LoopP.go _ (by omega) ⟨i + 1, _, _, _, _, rfl, ⟨hI2, by omega⟩, Slots.eq ⟨(by first | rfl | exact i64_int (by omega) (by omega) (by omega) | assumption), (by first | rfl | exact i64_int (by omega) (by omega) (by omega) | assumption), (by first | rfl | exact i64_int (by omega) (by omega) (by omega) | assumption), (by first | rfl | exact i64_int (by omega) (by omega) (by omega) | assumption),  trivial⟩, hS20⟩
      ·
        rintro _ _ ⟨rfl, rfl⟩
        rw [hI2.mg]
        refine AnyW.onlyQG 16 rfl (by kernel_rfl) rfl (dst_lt rfl) (q_lenVec Try.underlying46 rfl (hS20.vec at0)) ?_
        refine AnyW.onlyQG 20 rfl (by kernel_rfl) rfl (dst_lt rfl) (q_neq rfl rfl) ?_
        refine AnyW.onlyQG 21 rfl (by kernel_rfl) rfl (dst_lt rfl) (q_or2 rfl rfl rfl) ?_
        refine AnyW.done (by kernel_rfl) ?_
        refine SeqP.go ?_
        refine AW.cond rfl (fun h6 => ?_) (fun h6 => ?_)
        ·
          exfalso
          try simp only [eb37, eb51, decide_eq_true_eq, decide_eq_false_iff_not, Bool.or_eq_true, Bool.and_eq_true, Bool.or_eq_false_iff, Bool.and_eq_false_imp, Bool.not_eq_true', Bool.not_eq_false', ne_eq, Decidable.not_not, Int.not_lt, Int.not_le, Bool.not_eq_true, Bool.not_eq_false] at h6
          simp [mkP] at h6
        try simp only [eb37, eb51, decide_eq_true_eq, decide_eq_false_iff_not, Bool.or_eq_true, Bool.and_eq_true, Bool.or_eq_false_iff, Bool.and_eq_false_imp, Bool.not_eq_true', Bool.not_eq_false', ne_eq, Decidable.not_not, Int.not_lt, Int.not_le, Bool.not_eq_true, Bool.not_eq_false] at h6
        refine AW.skip ?_
        refine BlockP.go ?_
        refine SeqP.go ?_
        refine AW.region ?_
        refine OpsW.q rfl (q_move (v := .int _ _) rfl) ?_
        refine OpsW.q rfl (q_addI rfl rfl (by omega)) ?_
        refine OpsW.q rfl (q_assign (v := .int _ _) rfl) ?_
        refine OpsW.nil ?_
        replace hS20 := hS20.del del0
        replace hS20 := hS20.del del0
        exact LoopP.go _ (by omega) ⟨i + 1, _, _, _, _, rfl, ⟨hI2, by omega⟩, Slots.eq ⟨(by first | rfl | exact i64_int (by omega) (by omega) (by omega) | assumption), (by first | rfl | exact i64_int (by omega) (by omega) (by omega) | assumption), (by first | rfl | exact i64_int (by omega) (by omega) (by omega) | assumption), (by first | rfl | exact i64_int (by omega) (by omega) (by omega) | assumption),  trivial⟩, hS20⟩
    ·
      rintro _ _ ⟨rfl, rfl⟩
      rw [hI2.mg]
      refine AnyW.onlyG 15 rfl (by kernel_rfl) rfl (dst_lt rfl) (o_call rfl Try.func19 rfl rfl (Of_c hS6 at2 (by have := hI2.len; omega))) ?_
      rintro v105 H21 hR21
      have hS21 := hS6.join hR21
      simp only [List.cons_append, List.nil_append] at hS21
      clear hR21 hS6
      refine AnyW.onlyQG 16 rfl (by kernel_rfl) rfl (dst_lt rfl) (q_lenVec Try.underlying46 rfl (hS21.vec at0)) ?_
      refine AnyW.onlyQG 20 rfl (by kernel_rfl) rfl (dst_lt rfl) (q_neq rfl rfl) ?_
      refine AnyW.onlyQG 21 rfl (by kernel_rfl) rfl (dst_lt rfl) (q_or2 rfl rfl rfl) ?_
      refine AnyW.done (by kernel_rfl) ?_
      refine SeqP.go ?_
      refine AW.cond rfl (fun h6 => ?_) (fun h6 => ?_)
      ·
        exfalso
        try simp only [eb37, eb51, decide_eq_true_eq, decide_eq_false_iff_not, Bool.or_eq_true, Bool.and_eq_true, Bool.or_eq_false_iff, Bool.and_eq_false_imp, Bool.not_eq_true', Bool.not_eq_false', ne_eq, Decidable.not_not, Int.not_lt, Int.not_le, Bool.not_eq_true, Bool.not_eq_false] at h6
        simp [mkP] at h6
      try simp only [eb37, eb51, decide_eq_true_eq, decide_eq_false_iff_not, Bool.or_eq_true, Bool.and_eq_true, Bool.or_eq_false_iff, Bool.and_eq_false_imp, Bool.not_eq_true', Bool.not_eq_false', ne_eq, Decidable.not_not, Int.not_lt, Int.not_le, Bool.not_eq_true, Bool.not_eq_false] at h6
      refine AW.skip ?_
      refine BlockP.go ?_
      refine SeqP.go ?_
      refine AW.region ?_
      refine OpsW.q rfl (q_move (v := .int _ _) rfl) ?_
      refine OpsW.q rfl (q_addI rfl rfl (by omega)) ?_
      refine OpsW.q rfl (q_assign (v := .int _ _) rfl) ?_
      refine OpsW.nil ?_
      replace hS21 := hS21.del del0
      replace hS21 := hS21.del del0
      exact LoopP.go _ (by omega) ⟨i + 1, _, _, _, _, rfl, ⟨hI2, by omega⟩, Slots.eq ⟨(by first | rfl | exact i64_int (by omega) (by omega) (by omega) | assumption), (by first | rfl | exact i64_int (by omega) (by omega) (by omega) | assumption), (by first | rfl | exact i64_int (by omega) (by omega) (by omega) | assumption), (by first | rfl | exact i64_int (by omega) (by omega) (by omega) | assumption),  trivial⟩, hS21⟩
  ·
    rintro _ _ ⟨rfl, rfl⟩
    rw [hI2.mg]
    refine AnyW.onlyQG 6 rfl (by kernel_rfl) rfl (dst_lt rfl) (o_call rfl Try.func18 rfl rfl (Mark_c hS6 at2)) ?_
    refine AnyW.onlyQG 10 rfl (by kernel_rfl) rfl (dst_lt rfl) (q_neq rfl rfl) ?_
    rw [decide_eq_false (not_not_intro (rfl : mkP (addS t x (sndB (o i).who) (o i).n (o i).dat).2.1.st.L (sndB (o i).who) = _))]
    refine AnyW.onlyQG 11 rfl (by kernel_rfl) rfl (dst_lt rfl) (q_or2 rfl rfl rfl) ?_
    refine AnyW.onlyQG 12 rfl (by kernel_rfl) rfl (dst_lt rfl) (q_move (v := .bool false) rfl) ?_
    refine AnyW.firstG 13 rfl (by kernel_rfl) (by kernel_rfl) (by kernel_rfl) rfl (dst_lt rfl) (v_move (v := .pointer _) rfl) ?_
    refine AnyW.firstG 14 rfl (by kernel_rfl) (by kernel_rfl) (by kernel_rfl) rfl (dst_lt rfl) (v_move (v := S _) rfl) ?_
    refine AnyW.firstG 17 rfl (by kernel_rfl) (by kernel_rfl) (by kernel_rfl) rfl (dst_lt rfl) (v_move (v := .map _) rfl) ?_
    refine AnyW.firstG 18 rfl (by kernel_rfl) (by kernel_rfl) (by kernel_rfl) rfl (dst_lt rfl) (v_move (v := S _) rfl) ?_
    refine AnyW.twoG 15 19 rfl rfl (by kernel_rfl) rfl rfl (dst_lt rfl) (dst_lt rfl) (o_call rfl Try.func19 rfl rfl (Of_c hS6 at2 (by have := hI2.len; omega))) (q_lookup (z := .int .i64 0) Try.underlying38 (key_str Try.underlying9) (by kernel_rfl) rfl rfl (hS6.blk at1)) ?_ ?_
    ·
      rintro v105 H22 hR22
      have hS22 := hS6.join hR22
      simp only [List.cons_append, List.nil_append] at hS22
      clear hR22 hS6
      refine AnyW.twoG 16 19 rfl rfl (by kernel_rfl) rfl rfl (dst_lt rfl) (dst_lt rfl) (q_lenVec Try.underlying46 rfl (hS22.vec at0)) (q_lookup (z := .int .i64 0) Try.underlying38 (key_str Try.underlying9) (by kernel_rfl) rfl rfl (hS22.blk at2)) ?_ ?_
      ·
        rintro _ _ ⟨rfl, rfl⟩
        refine AnyW.onlyQG 19 rfl (by kernel_rfl) rfl (dst_lt rfl) (q_lookup (z := .int .i64 0) Try.underlying38 (key_str Try.underlying9) (by kernel_rfl) rfl rfl (hS22.blk at2)) ?_
        rw [hI2.mg]
        refine AnyW.onlyQG 20 rfl (by kernel_rfl) rfl (dst_lt rfl) (q_neq rfl rfl) ?_
        refine AnyW.onlyQG 21 rfl (by kernel_rfl) rfl (dst_lt rfl) (q_or2 rfl rfl rfl) ?_
        refine AnyW.done (by kernel_rfl) ?_
        refine SeqP.go ?_
        refine AW.cond rfl (fun h6 => ?_) (fun h6 => ?_)
        ·
          exfalso
          try simp only [eb37, eb51, decide_eq_true_eq, decide_eq_false_iff_not, Bool.or_eq_true, Bool.and_eq_true, Bool.or_eq_false_iff, Bool.and_eq_false_imp, Bool.not_eq_true', Bool.not_eq_false', ne_eq, Decidable.not_not, Int.not_lt, Int.not_le, Bool.not_eq_true, Bool.not_eq_false] at h6
          simp [mkP] at h6
        try simp only [eb37, eb51, decide_eq_true_eq, decide_eq_false_iff_not, Bool.or_eq_true, Bool.and_eq_true, Bool.or_eq_false_iff, Bool.and_eq_false_imp, Bool.not_eq_true', Bool.not_eq_false', ne_eq, Decidable.not_not, Int.not_lt, Int.not_le, Bool.not_eq_true, Bool.not_eq_false] at h6
        refine AW.skip ?_
        refine BlockP.go ?_
        refine SeqP.go ?_
        refine AW.region ?_
        refine OpsW.q rfl (q_move (v := .int _ _) rfl) ?_
        refine OpsW.q rfl (q_addI rfl rfl (by omega)) ?_
        refine OpsW.q rfl (q_assign (v := .int _ _) rfl) ?_
        refine OpsW.nil ?_
        replace hS22 := hS22.del del0
        replace hS22 := hS22.del del0
        exact LoopP.go _ (by omega) ⟨i + 1, _, _, _, _, rfl, ⟨hI2, by omega⟩, Slots.eq ⟨(by first | rfl | exact i64_int (by omega) (by omega) (by omega) | assumption), (by first | rfl | exact i64_int (by omega) (by omega) (by omega) | assumption), (by first | rfl | exact i64_int (by omega) (by omega) (by omega) | assumption), (by first | rfl | exact i64_int (by omega) (by omega) (by omega) | assumption),  trivial⟩, hS22⟩
      ·
        rintro _ _ ⟨rfl, rfl⟩
        rw [hI2.mg]
        refine AnyW.onlyQG 16 rfl (by kernel_rfl) rfl (dst_lt rfl) (q_lenVec Try.underlying46 rfl (hS22.vec at0)) ?_
        refine AnyW.onlyQG 20 rfl (by kernel_rfl) rfl (dst_lt rfl) (q_neq rfl rfl) ?_
        refine AnyW.onlyQG 21 rfl (by kernel_rfl) rfl (dst_lt rfl) (q_or2 rfl rfl rfl) ?_
        refine AnyW.done (by kernel_rfl) ?_
        refine SeqP.go ?_
        refine AW.cond rfl (fun h6 => ?_) (fun h6 => ?_)
        ·
          exfalso
          try simp only [eb37, eb51, decide_eq_true_eq, decide_eq_false_iff_not, Bool.or_eq_true, Bool.and_eq_true, Bool.or_eq_false_iff, Bool.and_eq_false_imp, Bool.not_eq_true', Bool.not_eq_false', ne_eq, Decidable.not_not, Int.not_lt, Int.not_le, Bool.not_eq_true, Bool.not_eq_false] at h6
          simp [mkP] at h6
        try simp only [eb37, eb51, decide_eq_true_eq, decide_eq_false_iff_not, Bool.or_eq_true, Bool.and_eq_true, Bool.or_eq_false_iff, Bool.and_eq_false_imp, Bool.not_eq_true', Bool.not_eq_false', ne_eq, Decidable.not_not, Int.not_lt, Int.not_le, Bool.not_eq_true, Bool.not_eq_false] at h6
        refine AW.skip ?_
        refine BlockP.go ?_
        refine SeqP.go ?_
        refine AW.region ?_
        refine OpsW.q rfl (q_move (v := .int _ _) rfl) ?_
        refine OpsW.q rfl (q_addI rfl rfl (by omega)) ?_
        refine OpsW.q rfl (q_assign (v := .int _ _) rfl) ?_
        refine OpsW.nil ?_
        replace hS22 := hS22.del del0
        replace hS22 := hS22.del del0
        exact LoopP.go _ (by omega) ⟨i + 1, _, _, _, _, rfl, ⟨hI2, by omega⟩, Slots.eq ⟨(by first | rfl | exact i64_int (by omega) (by omega) (by omega) | assumption), (by first | rfl | exact i64_int (by omega) (by omega) (by omega) | assumption), (by first | rfl | exact i64_int (by omega) (by omega) (by omega) | assumption), (by first | rfl | exact i64_int (by omega) (by omega) (by omega) | assumption),  trivial⟩, hS22⟩
    ·
      rintro _ _ ⟨rfl, rfl⟩
      rw [hI2.mg]
      refine AnyW.onlyG 15 rfl (by kernel_rfl) rfl (dst_lt rfl) (o_call rfl Try.func19 rfl rfl (Of_c hS6 at2 (by have := hI2.len; omega))) ?_
      rintro v105 H23 hR23
      have hS23 := hS6.join hR23
      simp only [List.cons_append, List.nil_append] at hS23
      clear hR23 hS6
      refine AnyW.onlyQG 16 rfl (by kernel_rfl) rfl (dst_lt rfl) (q_lenVec Try.underlying46 rfl (hS23.vec at0)) ?_
      refine AnyW.onlyQG 20 rfl (by kernel_rfl) rfl (dst_lt rfl) (q_neq rfl rfl) ?_
      refine AnyW.onlyQG 21 rfl (by kernel_rfl) rfl (dst_lt rfl) (q_or2 rfl rfl rfl) ?_
      refine AnyW.done (by kernel_rfl) ?_
      refine SeqP.go ?_
      refine AW.cond rfl (fun h6 => ?_) (fun h6 => ?_)
      ·
        exfalso
        try simp only [eb37, eb51, decide_eq_true_eq, decide_eq_false_iff_not, Bool.or_eq_true, Bool.and_eq_true, Bool.or_eq_false_iff, Bool.and_eq_false_imp, Bool.not_eq_true', Bool.not_eq_false', ne_eq, Decidable.not_not, Int.not_lt, Int.not_le, Bool.not_eq_true, Bool.not_eq_false] at h6
        simp [mkP] at h6
      try simp only [eb37, eb51, decide_eq_true_eq, decide_eq_false_iff_not, Bool.or_eq_true, Bool.and_eq_true, Bool.or_eq_false_iff, Bool.and_eq_false_imp, Bool.not_eq_true', Bool.not_eq_false', ne_eq, Decidable.not_not, Int.not_lt, Int.not_le, Bool.not_eq_true, Bool.not_eq_false] at h6
      refine AW.skip ?_
      refine BlockP.go ?_
      refine SeqP.go ?_
      refine AW.region ?_
      refine OpsW.q rfl (q_move (v := .int _ _) rfl) ?_
      refine OpsW.q rfl (q_addI rfl rfl (by omega)) ?_
      refine OpsW.q rfl (q_assign (v := .int _ _) rfl) ?_
      refine OpsW.nil ?_
      replace hS23 := hS23.del del0
      replace hS23 := hS23.del del0
      exact LoopP.go _ (by omega) ⟨i + 1, _, _, _, _, rfl, ⟨hI2, by omega⟩, Slots.eq ⟨(by first | rfl | exact i64_int (by omega) (by omega) (by omega) | assumption), (by first | rfl | exact i64_int (by omega) (by omega) (by omega) | assumption), (by first | rfl | exact i64_int (by omega) (by omega) (by omega) | assumption), (by first | rfl | exact i64_int (by omega) (by omega) (by omega) | assumption),  trivial⟩, hS23⟩
end
end Go.Proofs.Ytfiojlmccflplaa

