/-
  The walks of the statements of chapter 24: a nil store, and where a chain comes to a head.
-/
import Derived.Test.YtfiojlmccflplaaDQ
import Derived.Test.YtfiojlmccflplaaProg
import Derived.Test.YtfiojlmccflplaaVr
import Derived.Test.YtfiojlmccflplaaTn
namespace Go.Proofs.Ytfiojlmccflplaa
open Go Go.RowKit D
set_option linter.unusedVariables false
set_option linter.unusedSimpArgs false
set_option maxRecDepth 100000
set_option maxHeartbeats 2000000
section
variable {w0 : World} {H : Hp} {H0 : Hp}

theorem New_e {n : Int} (h : 1 ≤ n ∧ n ≤ 16777216) : Con Try.prog w0 14 #[.int .i64 n] H (fun v H' => ∃ b, v = .tuple #[PT b, .int .i64 0] ∧ Sep H [tapeC b ⟨n, [], [], 0, false⟩] H') :=
  (New_s n).mono fun _ _ h1 => h1.elim (fun h2 => absurd h2.1 (by omega)) (fun h2 => h2.2)
section
variable {L : List Chunk} {F : Chunk → List Chunk} {b tb : Nat} {x x' : StF} {t t' : TapeS} {st : StS} {who d : List UInt8} {n e : Int}
theorem Add_c (h : Sep H0 [stC b tb x t] H) (hok : StOk x.st.L) (htk : TapeOk t) (hl : x.st.L.length ≤ 1000000) (hh : x.st.h.length = 32) : Con Try.prog w0 17 #[PT b, S who, .agg #[.int .i64 n, S d]] H (fun v H' => v = .int .i64 (addS t x who n d).1 ∧ Sep H0 [stC b tb (addS t x who n d).2.1 (addS t x who n d).2.2] H') := by
  obtain ⟨mb, h1⟩ := sto_open h
  exact (Add_w h1 hok htk hl hh).mono fun _ _ ⟨h2, h3⟩ => ⟨h2, sto_close h3⟩
theorem Add_e (h : Sep H0 [stC b tb x t] H) (hok : StOk x.st.L) (htk : TapeOk t) (hl : x.st.L.length ≤ 1000000) (hh : x.st.h.length = 32) (he : addS t x who n d = (e, x', t')) : Con Try.prog w0 17 #[PT b, S who, .agg #[.int .i64 n, S d]] H (fun v H' => v = .int .i64 e ∧ Sep H0 [stC b tb x' t'] H') := by
  have := Add_c (w0 := w0) (who := who) (n := n) (d := d) h hok htk hl hh; rw [he] at this; exact this
theorem Open_e (h : Sep H0 [tapeC tb t] H) (htk : TapeOk t) (he : openS t = (0, t')) (hs : (scanS st0 (t.f ++ t.l)).2 = st) : Con Try.prog w0 15 #[PT tb] H (fun v H' => ∃ b, v = .tuple #[PT b, .int .i64 0] ∧ Sep H0 [stC b tb ⟨st, false⟩ t'] H') :=
  (OpenS_w h htk).mono fun _ _ h1 => h1.elim (fun h2 => absurd (by rw [he]) h2.1) (fun ⟨_, b, h2, h3⟩ => ⟨b, h2, by rw [he, hs] at h3; exact h3⟩)
theorem Of_c (h : Sep H0 L H) (hA : At L (stC b tb x t) F) (hl : x.st.L.length ≤ 1000000000) : Con Try.prog w0 19 #[PT b, S who] H (fun v H' => Sep H [recV v (ofP x.st.L who)] H') := by
  obtain ⟨mb, vs, h1, h2, h3⟩ := sto_look h hA who
  exact Of_con h1 h2 h3 hl
theorem Mark_c (h : Sep H0 L H) (hA : At L (stC b tb x t) F) : Con Try.prog w0 18 #[PT b, S who] H (fun v H' => v = .int .i64 (mkP x.st.L who) ∧ H' = H) := by
  obtain ⟨mb, vs, h1, h2, h3⟩ := sto_look h hA who
  exact Mark_con h1 h2 h3
theorem Head_c (h : Sep H0 L H) (hA : At L (stC b tb x t) F) : Con Try.prog w0 20 #[PT b] H (fun v H' => v = S x.st.h ∧ H' = H) := by
  obtain ⟨mb, vs, h1, h2, h3⟩ := sto_look h hA []
  exact Head_con h1
theorem Arm_c (h : Sep H0 [stC b tb x t] H) : Con Try.prog w0 21 #[PT tb, .int .i64 n] H (fun v H' => v = .tuple #[] ∧ Sep H0 [stC b tb x (armP t n)] H') := by
  obtain ⟨mb, h1⟩ := sto_open h
  obtain ⟨Hf, _, hA, hB⟩ := h1.framed at2
  exact (Arm_s hA n).mono fun _ _ ⟨h2, h3⟩ => ⟨h2, sto_close (hB _ _ h3)⟩
end
/-- One of some senders. -/
def sndB (n : Int) : List UInt8 := toB [IntKind.u8.wrap n] ++ List.replicate 31 0
theorem sndB_len (n : Int) : (sndB n).length = 32 := by simp [sndB, toB]
theorem sndB_bad {n seq : Int} {d : List UInt8} (h : ¬ addBad (sndB n) seq d) : 1 ≤ seq ∧ d ≠ [] ∧ d.length ≤ 8192 := by
  unfold addBad at h
  refine ⟨?_, ?_, ?_⟩
  · exact Int.not_lt.1 fun g => h (.inr (.inl g))
  · exact fun g => h (.inr (.inr (.inl g)))
  · exact Nat.not_lt.1 fun g => h (.inr (.inr (.inr g)))
theorem aw_bad {n seq : Int} {d : List UInt8} (h1 : 1 ≤ seq) (h2 : d ≠ []) (h3 : d.length ≤ 8192) : ¬ addBad (sndB n) seq d := by
  unfold addBad
  rintro (h | h | h | h)
  · exact h (sndB_len n)
  · omega
  · exact h2 h
  · omega
theorem mkP_nil (who : List UInt8) : mkP [] who = 0 := by unfold mkP; rw [ofP_nil]; rfl
theorem stok_new {n : Int} (h : 1 ≤ n ∧ n ≤ 16777216) : TapeOk ⟨n, [], [], 0, false⟩ := ⟨h.2, by show ((0 + 0 : Nat) : Int) ≤ n; omega, by show (0 : Int) ≤ 0; omega, by show (0 : Int) ≤ _; omega⟩
theorem no_goes (s : StS) : ¬ goesS s [] := fun g => by
  obtain ⟨h1, _⟩ := firstS_ok g.1
  exact h1.1 (by decide)
theorem openS_new {n : Int} (h : 1 ≤ n ∧ n ≤ 16777216) : openS ⟨n, [], [], 0, false⟩ = (0, ⟨n, [], [], 0, false⟩) ∧ (scanS st0 ((⟨n, [], [], 0, false⟩ : TapeS).f ++ (⟨n, [], [], 0, false⟩ : TapeS).l)).2 = st0 := by
  have e := scanS_end (no_goes st0)
  refine ⟨?_, by show (scanS st0 ([] ++ [])).2 = st0; rw [List.append_nil, e]⟩
  rw [openS_go rfl, openSC_sync (by show ¬ (scanS st0 ([] ++ [])).1 < _; rw [List.append_nil, e]; decide), syncP_ok rfl (show ¬ (0 : Int) = 1 by decide)]
  rfl
theorem ver_e1 (h : List UInt8) (e : h = z32) : verS [] z32 h = (0, 0) := verS_here e.symm
theorem ver_e2 : verS [120] z32 [] = (0, 43) := verS_chain (by decide) (by decide) (by rw [firstS_no (fun h => h.1 (by decide))])
theorem aw_add1 {t : TapeS} {n : Int} {d : List UInt8} (hd : d = [120]) : addS t ⟨st0, false⟩ (sndB n) 2 d = (44, ⟨st0, false⟩, t) := by
  subst hd; exact addS_seq rfl (aw_bad (by decide) (by decide) (by decide)) (by rw [show (⟨st0, false⟩ : StF).st.L = [] from rfl, mkP_nil]; decide)
theorem aw_add2 {n : Int} : (addS ⟨1000, [], [], 0, false⟩ ⟨st0, false⟩ (sndB n) 1 [120]).1 = 0 := by
  rw [addS_go rfl (aw_bad (by decide) (by decide) (by decide)) (by rw [show (⟨st0, false⟩ : StF).st.L = [] from rfl, mkP_nil]; decide)]
  have hl : (frS z32 (bodyS (sndB n) 1 [120])).length = 73 := by rw [frS_len, bodyS_len, sndB_len]; rfl
  have ha : appendP ⟨1000, [], [], 0, false⟩ (frS z32 (bodyS (sndB n) 1 [120])) = (0, ⟨1000, [], [] ++ frS z32 (bodyS (sndB n) 1 [120]), 0, false⟩) := by
    rw [appendP_ok rfl (by show ((0 + 0 : Nat) : Int) + _ ≤ 1000; rw [hl]; decide), actP_go (show ¬ (0 : Int) = 1 by decide)]; rfl
  rw [layS_ok (x := ⟨st0, false⟩) (by show (appendP _ (frS z32 _)).1 = 0; rw [ha]) (by show (syncP (appendP _ (frS z32 _)).2).1 = 0; rw [ha, syncP_ok rfl (show ¬ (0 : Int) = 1 by decide)])]

theorem Add_nil {who dat : List UInt8} {seq : Int} : Con Try.prog w0 17 #[.pointer none, S who, .agg #[.int .i64 seq, S dat]] H (fun v H' => v = .int .i64 2 ∧ H' = H) := by
  have hS0 : Sep H [] H := Sep.refl
  refine Con.intro Try.func17 rfl rfl ?_
  refine AW.seq ?_
  refine AW.region ?_
  refine OpsW.m rfl (s_box (v := .agg _) hS0 rfl rfl) ?_
  rintro _ H1 ⟨b5, rfl, hS1⟩
  clear hS0
  refine OpsW.q rfl (q_assign (v := .int _ _) rfl) ?_
  refine OpsW.nil ?_
  refine SeqP.go ?_
  refine AW.seq ?_
  refine AW.block ?_
  refine AW.seq ?_
  refine AW.region ?_
  refine OpsW.q rfl (q_move (v := .pointer _) rfl) ?_
  refine OpsW.q rfl (q_eqlP Try.underlying35 rfl rfl) ?_
  refine OpsW.q rfl (q_assign (v := .bool _) rfl) ?_
  refine OpsW.nil ?_
  refine SeqP.go ?_
  refine AW.cond rfl (fun h0 => ?_) (fun h0 => ?_)
  ·
    try simp only [decide_eq_true_eq, decide_eq_false_iff_not, Bool.or_eq_true, Bool.and_eq_true, Bool.or_eq_false_iff, Bool.and_eq_false_imp, Bool.not_eq_true', Bool.not_eq_false', ne_eq, Decidable.not_not, Int.not_lt, Int.not_le, Bool.not_eq_true, Bool.not_eq_false] at h0
    refine AW.seq ?_
    refine AW.region ?_
    refine OpsW.q rfl (q_assign (v := .int _ _) rfl) ?_
    refine OpsW.nil ?_
    refine SeqP.go ?_
    refine AW.ret ?_
    refine BlockP.ret ?_
    refine SeqP.ret ?_
    refine RetP.mk1 (H' := H) (v1 := .int _ _) rfl rfl  hS1.le ?_
    exact ⟨rfl, rfl⟩
  exfalso
  try simp only [decide_eq_true_eq, decide_eq_false_iff_not, Bool.or_eq_true, Bool.and_eq_true, Bool.or_eq_false_iff, Bool.and_eq_false_imp, Bool.not_eq_true', Bool.not_eq_false', ne_eq, Decidable.not_not, Int.not_lt, Int.not_le, Bool.not_eq_true, Bool.not_eq_false] at h0
  first | contradiction | (simp at *; done) | simp_all
theorem Mark_nil {who : List UInt8} : Con Try.prog w0 18 #[.pointer none, S who] H (fun v H' => v = .int .i64 0 ∧ H' = H) := by
  have hS0 : Sep H [] H := Sep.refl
  refine Con.intro Try.func18 rfl rfl ?_
  refine AW.seq ?_
  refine AW.region ?_
  refine OpsW.q rfl (q_assign (v := .int _ _) rfl) ?_
  refine OpsW.nil ?_
  refine SeqP.go ?_
  refine AW.seq ?_
  refine AW.seq ?_
  refine AW.region ?_
  refine OpsW.q rfl (q_move (v := .pointer _) rfl) ?_
  refine OpsW.q rfl (q_eqlP Try.underlying35 rfl rfl) ?_
  refine OpsW.nil ?_
  refine SeqP.go ?_
  refine AW.cond rfl (fun h0 => ?_) (fun h0 => ?_)
  ·
    try simp only [decide_eq_true_eq, decide_eq_false_iff_not, Bool.or_eq_true, Bool.and_eq_true, Bool.or_eq_false_iff, Bool.and_eq_false_imp, Bool.not_eq_true', Bool.not_eq_false', ne_eq, Decidable.not_not, Int.not_lt, Int.not_le, Bool.not_eq_true, Bool.not_eq_false] at h0
    refine AW.seq ?_
    refine AW.region ?_
    refine OpsW.q rfl (q_assign (v := .int _ _) rfl) ?_
    refine OpsW.nil ?_
    refine SeqP.go ?_
    refine AW.ret ?_
    refine SeqP.ret ?_
    refine RetP.mk1 (H' := H) (v1 := .int _ _) rfl rfl  hS0.le ?_
    exact ⟨rfl, rfl⟩
  exfalso
  try simp only [decide_eq_true_eq, decide_eq_false_iff_not, Bool.or_eq_true, Bool.and_eq_true, Bool.or_eq_false_iff, Bool.and_eq_false_imp, Bool.not_eq_true', Bool.not_eq_false', ne_eq, Decidable.not_not, Int.not_lt, Int.not_le, Bool.not_eq_true, Bool.not_eq_false] at h0
  first | contradiction | (simp at *; done) | simp_all
theorem Of_nil {who : List UInt8} : Con Try.prog w0 19 #[.pointer none, S who] H (fun v H' => v = .slice none 0 0 ∧ H' = H) := by
  have hS0 : Sep H [] H := Sep.refl
  refine Con.intro Try.func19 rfl rfl ?_
  refine AW.seq ?_
  refine AW.region ?_
  refine OpsW.q rfl (q_assign (v := .slice _ _ _) rfl) ?_
  refine OpsW.nil ?_
  refine SeqP.go ?_
  refine AW.seq ?_
  refine AW.seq ?_
  refine AW.region ?_
  refine OpsW.q rfl (q_move (v := .pointer _) rfl) ?_
  refine OpsW.q rfl (q_eqlP Try.underlying35 rfl rfl) ?_
  refine OpsW.nil ?_
  refine SeqP.go ?_
  refine AW.cond rfl (fun h0 => ?_) (fun h0 => ?_)
  ·
    try simp only [decide_eq_true_eq, decide_eq_false_iff_not, Bool.or_eq_true, Bool.and_eq_true, Bool.or_eq_false_iff, Bool.and_eq_false_imp, Bool.not_eq_true', Bool.not_eq_false', ne_eq, Decidable.not_not, Int.not_lt, Int.not_le, Bool.not_eq_true, Bool.not_eq_false] at h0
    refine AW.seq ?_
    refine AW.region ?_
    refine OpsW.q rfl (q_assign (v := .slice _ _ _) rfl) ?_
    refine OpsW.nil ?_
    refine SeqP.go ?_
    refine AW.ret ?_
    refine SeqP.ret ?_
    refine RetP.mk1 (H' := H) (v1 := .slice _ _ _) rfl rfl  hS0.le ?_
    exact ⟨rfl, rfl⟩
  exfalso
  try simp only [decide_eq_true_eq, decide_eq_false_iff_not, Bool.or_eq_true, Bool.and_eq_true, Bool.or_eq_false_iff, Bool.and_eq_false_imp, Bool.not_eq_true', Bool.not_eq_false', ne_eq, Decidable.not_not, Int.not_lt, Int.not_le, Bool.not_eq_true, Bool.not_eq_false] at h0
  first | contradiction | (simp at *; done) | simp_all
theorem Head_nil : Con Try.prog w0 20 #[.pointer none] H (fun v H' => v = S [] ∧ H' = H) := by
  have hS0 : Sep H [] H := Sep.refl
  refine Con.intro Try.func20 rfl rfl ?_
  refine AW.seq ?_
  refine AW.region ?_
  refine OpsW.q rfl (q_assign (v := S _) rfl) ?_
  refine OpsW.nil ?_
  refine SeqP.go ?_
  refine AW.seq ?_
  refine AW.seq ?_
  refine AW.region ?_
  refine OpsW.q rfl (q_move (v := .pointer _) rfl) ?_
  refine OpsW.q rfl (q_eqlP Try.underlying35 rfl rfl) ?_
  refine OpsW.nil ?_
  refine SeqP.go ?_
  refine AW.cond rfl (fun h0 => ?_) (fun h0 => ?_)
  ·
    try simp only [decide_eq_true_eq, decide_eq_false_iff_not, Bool.or_eq_true, Bool.and_eq_true, Bool.or_eq_false_iff, Bool.and_eq_false_imp, Bool.not_eq_true', Bool.not_eq_false', ne_eq, Decidable.not_not, Int.not_lt, Int.not_le, Bool.not_eq_true, Bool.not_eq_false] at h0
    refine AW.seq ?_
    refine AW.region ?_
    refine OpsW.q rfl (q_assign (v := S _) rfl) ?_
    refine OpsW.nil ?_
    refine SeqP.go ?_
    refine AW.ret ?_
    refine SeqP.ret ?_
    refine RetP.mk1 (H' := H) (v1 := S _) rfl rfl  hS0.le ?_
    exact ⟨rfl, rfl⟩
  exfalso
  try simp only [decide_eq_true_eq, decide_eq_false_iff_not, Bool.or_eq_true, Bool.and_eq_true, Bool.or_eq_false_iff, Bool.and_eq_false_imp, Bool.not_eq_true', Bool.not_eq_false', ne_eq, Decidable.not_not, Int.not_lt, Int.not_le, Bool.not_eq_true, Bool.not_eq_false] at h0
  first | contradiction | (simp at *; done) | simp_all
theorem Open_nil : Con Try.prog w0 15 #[.pointer none] H (fun v H' => v = .tuple #[.pointer none, .int .i64 2] ∧ H' = H) := by
  have hS0 : Sep H [] H := Sep.refl
  refine Con.intro Try.func15 rfl rfl ?_
  refine AW.seq ?_
  refine AW.region ?_
  refine OpsW.q rfl (q_assign (v := .pointer _) rfl) ?_
  refine OpsW.q rfl (q_assign (v := .int _ _) rfl) ?_
  refine OpsW.nil ?_
  refine SeqP.go ?_
  refine AW.seq ?_
  refine AW.seq ?_
  refine AW.region ?_
  refine OpsW.q rfl (q_move (v := .pointer _) rfl) ?_
  refine OpsW.q rfl (q_eqlP Try.underlying32 rfl rfl) ?_
  refine OpsW.nil ?_
  refine SeqP.go ?_
  refine AW.cond rfl (fun h0 => ?_) (fun h0 => ?_)
  ·
    try simp only [decide_eq_true_eq, decide_eq_false_iff_not, Bool.or_eq_true, Bool.and_eq_true, Bool.or_eq_false_iff, Bool.and_eq_false_imp, Bool.not_eq_true', Bool.not_eq_false', ne_eq, Decidable.not_not, Int.not_lt, Int.not_le, Bool.not_eq_true, Bool.not_eq_false] at h0
    refine AW.seq ?_
    refine AW.region ?_
    refine OpsW.q rfl (q_assign (v := .pointer _) rfl) ?_
    refine OpsW.q rfl (q_assign (v := .int _ _) rfl) ?_
    refine OpsW.nil ?_
    refine SeqP.go ?_
    refine AW.ret ?_
    refine SeqP.ret ?_
    refine RetP.mk2 (H' := H) (v1 := .pointer _) (v2 := .int _ _) rfl rfl rfl  hS0.le ?_
    exact ⟨rfl, rfl⟩
  exfalso
  try simp only [decide_eq_true_eq, decide_eq_false_iff_not, Bool.or_eq_true, Bool.and_eq_true, Bool.or_eq_false_iff, Bool.and_eq_false_imp, Bool.not_eq_true', Bool.not_eq_false', ne_eq, Decidable.not_not, Int.not_lt, Int.not_le, Bool.not_eq_true, Bool.not_eq_false] at h0
  first | contradiction | (simp at *; done) | simp_all
theorem sender_con (n : Int) : Con Try.prog w0 16 #[.int .i64 n] H (fun v H' => v = S (sndB n) ∧ H' = H) := by
  have hS0 : Sep H [] H := Sep.refl
  refine Con.intro Try.func16 rfl rfl ?_
  refine AW.seq ?_
  refine AW.region ?_
  refine OpsW.q rfl (q_assign (v := S _) rfl) ?_
  refine OpsW.nil ?_
  refine SeqP.go ?_
  refine AW.seq ?_
  refine AW.steps rfl 8 rfl ?_
  refine AnyW.first 0 rfl (by kernel_rfl) (by kernel_rfl) (by kernel_rfl) rfl (dst_lt rfl) (v_move (v := .int _ _) rfl) ?_
  refine AnyW.two 1 4 rfl rfl (by kernel_rfl) rfl rfl (dst_lt rfl) (dst_lt rfl) (q_convInt rfl Try.underlying5 rfl) (s_makeSliceN (kk := .u8) (by_ := 1) hS0 Try.underlying72 (by kernel_rfl) (by kernel_rfl) (by kernel_rfl) rfl rfl (by first | omega | decide) (by first | omega | decide) (by first | (with_reducible assumption) | omega | (unfold maxLen; omega) | (simp only [nums_length, List.length_set, List.length_replicate, List.length_take, List.length_drop, List.length_append, List.length_cons, List.length_nil, ofB_length, toB_length]; omega) | (simp only [nums_length, List.length_set, List.length_replicate, List.length_take, List.length_drop, List.length_append, List.length_cons, List.length_nil, ofB_length, toB_length]; unfold maxLen; omega) | (simp; done) | (simp; omega) | rfl | decide) (by first | (with_reducible assumption) | omega | (unfold maxLen; omega) | (simp only [nums_length, List.length_set, List.length_replicate, List.length_take, List.length_drop, List.length_append, List.length_cons, List.length_nil, ofB_length, toB_length]; omega) | (simp only [nums_length, List.length_set, List.length_replicate, List.length_take, List.length_drop, List.length_append, List.length_cons, List.length_nil, ofB_length, toB_length]; unfold maxLen; omega) | (simp; done) | (simp; omega) | rfl | decide) (by first | (with_reducible assumption) | omega | (unfold maxLen; omega) | (simp only [nums_length, List.length_set, List.length_replicate, List.length_take, List.length_drop, List.length_append, List.length_cons, List.length_nil, ofB_length, toB_length]; omega) | (simp only [nums_length, List.length_set, List.length_replicate, List.length_take, List.length_drop, List.length_append, List.length_cons, List.length_nil, ofB_length, toB_length]; unfold maxLen; omega) | (simp; done) | (simp; omega) | rfl | decide)) ?_ ?_
  ·
    rintro _ _ ⟨rfl, rfl⟩
    refine AnyW.two 2 4 rfl rfl (by kernel_rfl) rfl rfl (dst_lt rfl) (dst_lt rfl) (s_buildSlice (z := .int .u8 0) (vs := nums .u8 [_]) hS0 Try.underlying72 (by kernel_rfl) (by kernel_rfl) rfl (by rfl) (by rfl) (by decide) rfl (nums_one _ _) rfl) (s_makeSliceN (kk := .u8) (by_ := 1) hS0 Try.underlying72 (by kernel_rfl) (by kernel_rfl) (by kernel_rfl) rfl rfl (by first | omega | decide) (by first | omega | decide) (by first | (with_reducible assumption) | omega | (unfold maxLen; omega) | (simp only [nums_length, List.length_set, List.length_replicate, List.length_take, List.length_drop, List.length_append, List.length_cons, List.length_nil, ofB_length, toB_length]; omega) | (simp only [nums_length, List.length_set, List.length_replicate, List.length_take, List.length_drop, List.length_append, List.length_cons, List.length_nil, ofB_length, toB_length]; unfold maxLen; omega) | (simp; done) | (simp; omega) | rfl | decide) (by first | (with_reducible assumption) | omega | (unfold maxLen; omega) | (simp only [nums_length, List.length_set, List.length_replicate, List.length_take, List.length_drop, List.length_append, List.length_cons, List.length_nil, ofB_length, toB_length]; omega) | (simp only [nums_length, List.length_set, List.length_replicate, List.length_take, List.length_drop, List.length_append, List.length_cons, List.length_nil, ofB_length, toB_length]; unfold maxLen; omega) | (simp; done) | (simp; omega) | rfl | decide) (by first | (with_reducible assumption) | omega | (unfold maxLen; omega) | (simp only [nums_length, List.length_set, List.length_replicate, List.length_take, List.length_drop, List.length_append, List.length_cons, List.length_nil, ofB_length, toB_length]; omega) | (simp only [nums_length, List.length_set, List.length_replicate, List.length_take, List.length_drop, List.length_append, List.length_cons, List.length_nil, ofB_length, toB_length]; unfold maxLen; omega) | (simp; done) | (simp; omega) | rfl | decide)) ?_ ?_
    ·
      rintro v5 H1 hS1
      clear hS0
      refine AnyW.two 3 4 rfl rfl (by kernel_rfl) rfl rfl (dst_lt rfl) (dst_lt rfl) (q_stringVec (hS1.vec at0) Try.underlying72 Try.underlying5 Try.underlying9 rfl) (s_makeSliceN (kk := .u8) (by_ := 1) hS1 Try.underlying72 (by kernel_rfl) (by kernel_rfl) (by kernel_rfl) rfl rfl (by first | omega | decide) (by first | omega | decide) (by first | (with_reducible assumption) | omega | (unfold maxLen; omega) | (simp only [nums_length, List.length_set, List.length_replicate, List.length_take, List.length_drop, List.length_append, List.length_cons, List.length_nil, ofB_length, toB_length]; omega) | (simp only [nums_length, List.length_set, List.length_replicate, List.length_take, List.length_drop, List.length_append, List.length_cons, List.length_nil, ofB_length, toB_length]; unfold maxLen; omega) | (simp; done) | (simp; omega) | rfl | decide) (by first | (with_reducible assumption) | omega | (unfold maxLen; omega) | (simp only [nums_length, List.length_set, List.length_replicate, List.length_take, List.length_drop, List.length_append, List.length_cons, List.length_nil, ofB_length, toB_length]; omega) | (simp only [nums_length, List.length_set, List.length_replicate, List.length_take, List.length_drop, List.length_append, List.length_cons, List.length_nil, ofB_length, toB_length]; unfold maxLen; omega) | (simp; done) | (simp; omega) | rfl | decide) (by first | (with_reducible assumption) | omega | (unfold maxLen; omega) | (simp only [nums_length, List.length_set, List.length_replicate, List.length_take, List.length_drop, List.length_append, List.length_cons, List.length_nil, ofB_length, toB_length]; omega) | (simp only [nums_length, List.length_set, List.length_replicate, List.length_take, List.length_drop, List.length_append, List.length_cons, List.length_nil, ofB_length, toB_length]; unfold maxLen; omega) | (simp; done) | (simp; omega) | rfl | decide)) ?_ ?_
      ·
        rintro _ _ ⟨rfl, rfl⟩
        refine AnyW.only 4 rfl (by kernel_rfl) rfl (dst_lt rfl) (s_makeSliceN (kk := .u8) (by_ := 1) hS1 Try.underlying72 (by kernel_rfl) (by kernel_rfl) (by kernel_rfl) rfl rfl (by first | omega | decide) (by first | omega | decide) (by first | (with_reducible assumption) | omega | (unfold maxLen; omega) | (simp only [nums_length, List.length_set, List.length_replicate, List.length_take, List.length_drop, List.length_append, List.length_cons, List.length_nil, ofB_length, toB_length]; omega) | (simp only [nums_length, List.length_set, List.length_replicate, List.length_take, List.length_drop, List.length_append, List.length_cons, List.length_nil, ofB_length, toB_length]; unfold maxLen; omega) | (simp; done) | (simp; omega) | rfl | decide) (by first | (with_reducible assumption) | omega | (unfold maxLen; omega) | (simp only [nums_length, List.length_set, List.length_replicate, List.length_take, List.length_drop, List.length_append, List.length_cons, List.length_nil, ofB_length, toB_length]; omega) | (simp only [nums_length, List.length_set, List.length_replicate, List.length_take, List.length_drop, List.length_append, List.length_cons, List.length_nil, ofB_length, toB_length]; unfold maxLen; omega) | (simp; done) | (simp; omega) | rfl | decide) (by first | (with_reducible assumption) | omega | (unfold maxLen; omega) | (simp only [nums_length, List.length_set, List.length_replicate, List.length_take, List.length_drop, List.length_append, List.length_cons, List.length_nil, ofB_length, toB_length]; omega) | (simp only [nums_length, List.length_set, List.length_replicate, List.length_take, List.length_drop, List.length_append, List.length_cons, List.length_nil, ofB_length, toB_length]; unfold maxLen; omega) | (simp; done) | (simp; omega) | rfl | decide)) ?_
        rintro v7 H2 hS2
        clear hS1
        refine AnyW.onlyQ 5 rfl (by kernel_rfl) rfl (dst_lt rfl) (q_stringVec (hS2.vec at0) Try.underlying72 Try.underlying5 Try.underlying9 rfl) ?_
        refine AnyW.onlyQ 6 rfl (by kernel_rfl) rfl (dst_lt rfl) (q_cat rfl rfl (by first | (with_reducible assumption) | omega | (unfold maxLen; omega) | (simp only [nums_length, List.length_set, List.length_replicate, List.length_take, List.length_drop, List.length_append, List.length_cons, List.length_nil, ofB_length, toB_length]; omega) | (simp only [nums_length, List.length_set, List.length_replicate, List.length_take, List.length_drop, List.length_append, List.length_cons, List.length_nil, ofB_length, toB_length]; unfold maxLen; omega) | (simp; done) | (simp; omega) | rfl | decide)) ?_
        refine AnyW.onlyQ 7 rfl (by kernel_rfl) rfl (dst_lt rfl) (q_assign (v := S _) rfl) ?_
        refine AnyW.done (by kernel_rfl) ?_
        refine SeqP.go ?_
        refine AW.ret ?_
        refine RetP.mk1 (H' := _) (v1 := S _) rfl rfl  hS2.le ?_
        exact ⟨rfl, rfl⟩
      ·
        rintro v7 H3 hS3
        clear hS1
        refine AnyW.two 3 5 rfl rfl (by kernel_rfl) rfl rfl (dst_lt rfl) (dst_lt rfl) (q_stringVec (hS3.vec at1) Try.underlying72 Try.underlying5 Try.underlying9 rfl) (q_stringVec (hS3.vec at0) Try.underlying72 Try.underlying5 Try.underlying9 rfl) ?_ ?_
        ·
          rintro _ _ ⟨rfl, rfl⟩
          refine AnyW.onlyQ 5 rfl (by kernel_rfl) rfl (dst_lt rfl) (q_stringVec (hS3.vec at0) Try.underlying72 Try.underlying5 Try.underlying9 rfl) ?_
          refine AnyW.onlyQ 6 rfl (by kernel_rfl) rfl (dst_lt rfl) (q_cat rfl rfl (by first | (with_reducible assumption) | omega | (unfold maxLen; omega) | (simp only [nums_length, List.length_set, List.length_replicate, List.length_take, List.length_drop, List.length_append, List.length_cons, List.length_nil, ofB_length, toB_length]; omega) | (simp only [nums_length, List.length_set, List.length_replicate, List.length_take, List.length_drop, List.length_append, List.length_cons, List.length_nil, ofB_length, toB_length]; unfold maxLen; omega) | (simp; done) | (simp; omega) | rfl | decide)) ?_
          refine AnyW.onlyQ 7 rfl (by kernel_rfl) rfl (dst_lt rfl) (q_assign (v := S _) rfl) ?_
          refine AnyW.done (by kernel_rfl) ?_
          refine SeqP.go ?_
          refine AW.ret ?_
          refine RetP.mk1 (H' := _) (v1 := S _) rfl rfl  hS3.le ?_
          exact ⟨rfl, rfl⟩
        ·
          rintro _ _ ⟨rfl, rfl⟩
          refine AnyW.onlyQ 3 rfl (by kernel_rfl) rfl (dst_lt rfl) (q_stringVec (hS3.vec at1) Try.underlying72 Try.underlying5 Try.underlying9 rfl) ?_
          refine AnyW.onlyQ 6 rfl (by kernel_rfl) rfl (dst_lt rfl) (q_cat rfl rfl (by first | (with_reducible assumption) | omega | (unfold maxLen; omega) | (simp only [nums_length, List.length_set, List.length_replicate, List.length_take, List.length_drop, List.length_append, List.length_cons, List.length_nil, ofB_length, toB_length]; omega) | (simp only [nums_length, List.length_set, List.length_replicate, List.length_take, List.length_drop, List.length_append, List.length_cons, List.length_nil, ofB_length, toB_length]; unfold maxLen; omega) | (simp; done) | (simp; omega) | rfl | decide)) ?_
          refine AnyW.onlyQ 7 rfl (by kernel_rfl) rfl (dst_lt rfl) (q_assign (v := S _) rfl) ?_
          refine AnyW.done (by kernel_rfl) ?_
          refine SeqP.go ?_
          refine AW.ret ?_
          refine RetP.mk1 (H' := _) (v1 := S _) rfl rfl  hS3.le ?_
          exact ⟨rfl, rfl⟩
    ·
      rintro v7 H4 hS4
      clear hS0
      refine AnyW.two 2 5 rfl rfl (by kernel_rfl) rfl rfl (dst_lt rfl) (dst_lt rfl) (s_buildSlice (z := .int .u8 0) (vs := nums .u8 [_]) hS4 Try.underlying72 (by kernel_rfl) (by kernel_rfl) rfl (by rfl) (by rfl) (by decide) rfl (nums_one _ _) rfl) (q_stringVec (hS4.vec at0) Try.underlying72 Try.underlying5 Try.underlying9 rfl) ?_ ?_
      ·
        rintro v5 H5 hS5
        clear hS4
        refine AnyW.two 3 5 rfl rfl (by kernel_rfl) rfl rfl (dst_lt rfl) (dst_lt rfl) (q_stringVec (hS5.vec at0) Try.underlying72 Try.underlying5 Try.underlying9 rfl) (q_stringVec (hS5.vec at1) Try.underlying72 Try.underlying5 Try.underlying9 rfl) ?_ ?_
        ·
          rintro _ _ ⟨rfl, rfl⟩
          refine AnyW.onlyQ 5 rfl (by kernel_rfl) rfl (dst_lt rfl) (q_stringVec (hS5.vec at1) Try.underlying72 Try.underlying5 Try.underlying9 rfl) ?_
          refine AnyW.onlyQ 6 rfl (by kernel_rfl) rfl (dst_lt rfl) (q_cat rfl rfl (by first | (with_reducible assumption) | omega | (unfold maxLen; omega) | (simp only [nums_length, List.length_set, List.length_replicate, List.length_take, List.length_drop, List.length_append, List.length_cons, List.length_nil, ofB_length, toB_length]; omega) | (simp only [nums_length, List.length_set, List.length_replicate, List.length_take, List.length_drop, List.length_append, List.length_cons, List.length_nil, ofB_length, toB_length]; unfold maxLen; omega) | (simp; done) | (simp; omega) | rfl | decide)) ?_
          refine AnyW.onlyQ 7 rfl (by kernel_rfl) rfl (dst_lt rfl) (q_assign (v := S _) rfl) ?_
          refine AnyW.done (by kernel_rfl) ?_
          refine SeqP.go ?_
          refine AW.ret ?_
          refine RetP.mk1 (H' := _) (v1 := S _) rfl rfl  hS5.le ?_
          exact ⟨rfl, rfl⟩
        ·
          rintro _ _ ⟨rfl, rfl⟩
          refine AnyW.onlyQ 3 rfl (by kernel_rfl) rfl (dst_lt rfl) (q_stringVec (hS5.vec at0) Try.underlying72 Try.underlying5 Try.underlying9 rfl) ?_
          refine AnyW.onlyQ 6 rfl (by kernel_rfl) rfl (dst_lt rfl) (q_cat rfl rfl (by first | (with_reducible assumption) | omega | (unfold maxLen; omega) | (simp only [nums_length, List.length_set, List.length_replicate, List.length_take, List.length_drop, List.length_append, List.length_cons, List.length_nil, ofB_length, toB_length]; omega) | (simp only [nums_length, List.length_set, List.length_replicate, List.length_take, List.length_drop, List.length_append, List.length_cons, List.length_nil, ofB_length, toB_length]; unfold maxLen; omega) | (simp; done) | (simp; omega) | rfl | decide)) ?_
          refine AnyW.onlyQ 7 rfl (by kernel_rfl) rfl (dst_lt rfl) (q_assign (v := S _) rfl) ?_
          refine AnyW.done (by kernel_rfl) ?_
          refine SeqP.go ?_
          refine AW.ret ?_
          refine RetP.mk1 (H' := _) (v1 := S _) rfl rfl  hS5.le ?_
          exact ⟨rfl, rfl⟩
      ·
        rintro _ _ ⟨rfl, rfl⟩
        refine AnyW.only 2 rfl (by kernel_rfl) rfl (dst_lt rfl) (s_buildSlice (z := .int .u8 0) (vs := nums .u8 [_]) hS4 Try.underlying72 (by kernel_rfl) (by kernel_rfl) rfl (by rfl) (by rfl) (by decide) rfl (nums_one _ _) rfl) ?_
        rintro v5 H6 hS6
        clear hS4
        refine AnyW.onlyQ 3 rfl (by kernel_rfl) rfl (dst_lt rfl) (q_stringVec (hS6.vec at0) Try.underlying72 Try.underlying5 Try.underlying9 rfl) ?_
        refine AnyW.onlyQ 6 rfl (by kernel_rfl) rfl (dst_lt rfl) (q_cat rfl rfl (by first | (with_reducible assumption) | omega | (unfold maxLen; omega) | (simp only [nums_length, List.length_set, List.length_replicate, List.length_take, List.length_drop, List.length_append, List.length_cons, List.length_nil, ofB_length, toB_length]; omega) | (simp only [nums_length, List.length_set, List.length_replicate, List.length_take, List.length_drop, List.length_append, List.length_cons, List.length_nil, ofB_length, toB_length]; unfold maxLen; omega) | (simp; done) | (simp; omega) | rfl | decide)) ?_
        refine AnyW.onlyQ 7 rfl (by kernel_rfl) rfl (dst_lt rfl) (q_assign (v := S _) rfl) ?_
        refine AnyW.done (by kernel_rfl) ?_
        refine SeqP.go ?_
        refine AW.ret ?_
        refine RetP.mk1 (H' := _) (v1 := S _) rfl rfl  hS6.le ?_
        exact ⟨rfl, rfl⟩
  ·
    rintro v7 H7 hS7
    clear hS0
    refine AnyW.two 1 5 rfl rfl (by kernel_rfl) rfl rfl (dst_lt rfl) (dst_lt rfl) (q_convInt rfl Try.underlying5 rfl) (q_stringVec (hS7.vec at0) Try.underlying72 Try.underlying5 Try.underlying9 rfl) ?_ ?_
    ·
      rintro _ _ ⟨rfl, rfl⟩
      refine AnyW.two 2 5 rfl rfl (by kernel_rfl) rfl rfl (dst_lt rfl) (dst_lt rfl) (s_buildSlice (z := .int .u8 0) (vs := nums .u8 [_]) hS7 Try.underlying72 (by kernel_rfl) (by kernel_rfl) rfl (by rfl) (by rfl) (by decide) rfl (nums_one _ _) rfl) (q_stringVec (hS7.vec at0) Try.underlying72 Try.underlying5 Try.underlying9 rfl) ?_ ?_
      ·
        rintro v5 H8 hS8
        clear hS7
        refine AnyW.two 3 5 rfl rfl (by kernel_rfl) rfl rfl (dst_lt rfl) (dst_lt rfl) (q_stringVec (hS8.vec at0) Try.underlying72 Try.underlying5 Try.underlying9 rfl) (q_stringVec (hS8.vec at1) Try.underlying72 Try.underlying5 Try.underlying9 rfl) ?_ ?_
        ·
          rintro _ _ ⟨rfl, rfl⟩
          refine AnyW.onlyQ 5 rfl (by kernel_rfl) rfl (dst_lt rfl) (q_stringVec (hS8.vec at1) Try.underlying72 Try.underlying5 Try.underlying9 rfl) ?_
          refine AnyW.onlyQ 6 rfl (by kernel_rfl) rfl (dst_lt rfl) (q_cat rfl rfl (by first | (with_reducible assumption) | omega | (unfold maxLen; omega) | (simp only [nums_length, List.length_set, List.length_replicate, List.length_take, List.length_drop, List.length_append, List.length_cons, List.length_nil, ofB_length, toB_length]; omega) | (simp only [nums_length, List.length_set, List.length_replicate, List.length_take, List.length_drop, List.length_append, List.length_cons, List.length_nil, ofB_length, toB_length]; unfold maxLen; omega) | (simp; done) | (simp; omega) | rfl | decide)) ?_
          refine AnyW.onlyQ 7 rfl (by kernel_rfl) rfl (dst_lt rfl) (q_assign (v := S _) rfl) ?_
          refine AnyW.done (by kernel_rfl) ?_
          refine SeqP.go ?_
          refine AW.ret ?_
          refine RetP.mk1 (H' := _) (v1 := S _) rfl rfl  hS8.le ?_
          exact ⟨rfl, rfl⟩
        ·
          rintro _ _ ⟨rfl, rfl⟩
          refine AnyW.onlyQ 3 rfl (by kernel_rfl) rfl (dst_lt rfl) (q_stringVec (hS8.vec at0) Try.underlying72 Try.underlying5 Try.underlying9 rfl) ?_
          refine AnyW.onlyQ 6 rfl (by kernel_rfl) rfl (dst_lt rfl) (q_cat rfl rfl (by first | (with_reducible assumption) | omega | (unfold maxLen; omega) | (simp only [nums_length, List.length_set, List.length_replicate, List.length_take, List.length_drop, List.length_append, List.length_cons, List.length_nil, ofB_length, toB_length]; omega) | (simp only [nums_length, List.length_set, List.length_replicate, List.length_take, List.length_drop, List.length_append, List.length_cons, List.length_nil, ofB_length, toB_length]; unfold maxLen; omega) | (simp; done) | (simp; omega) | rfl | decide)) ?_
          refine AnyW.onlyQ 7 rfl (by kernel_rfl) rfl (dst_lt rfl) (q_assign (v := S _) rfl) ?_
          refine AnyW.done (by kernel_rfl) ?_
          refine SeqP.go ?_
          refine AW.ret ?_
          refine RetP.mk1 (H' := _) (v1 := S _) rfl rfl  hS8.le ?_
          exact ⟨rfl, rfl⟩
      ·
        rintro _ _ ⟨rfl, rfl⟩
        refine AnyW.only 2 rfl (by kernel_rfl) rfl (dst_lt rfl) (s_buildSlice (z := .int .u8 0) (vs := nums .u8 [_]) hS7 Try.underlying72 (by kernel_rfl) (by kernel_rfl) rfl (by rfl) (by rfl) (by decide) rfl (nums_one _ _) rfl) ?_
        rintro v5 H9 hS9
        clear hS7
        refine AnyW.onlyQ 3 rfl (by kernel_rfl) rfl (dst_lt rfl) (q_stringVec (hS9.vec at0) Try.underlying72 Try.underlying5 Try.underlying9 rfl) ?_
        refine AnyW.onlyQ 6 rfl (by kernel_rfl) rfl (dst_lt rfl) (q_cat rfl rfl (by first | (with_reducible assumption) | omega | (unfold maxLen; omega) | (simp only [nums_length, List.length_set, List.length_replicate, List.length_take, List.length_drop, List.length_append, List.length_cons, List.length_nil, ofB_length, toB_length]; omega) | (simp only [nums_length, List.length_set, List.length_replicate, List.length_take, List.length_drop, List.length_append, List.length_cons, List.length_nil, ofB_length, toB_length]; unfold maxLen; omega) | (simp; done) | (simp; omega) | rfl | decide)) ?_
        refine AnyW.onlyQ 7 rfl (by kernel_rfl) rfl (dst_lt rfl) (q_assign (v := S _) rfl) ?_
        refine AnyW.done (by kernel_rfl) ?_
        refine SeqP.go ?_
        refine AW.ret ?_
        refine RetP.mk1 (H' := _) (v1 := S _) rfl rfl  hS9.le ?_
        exact ⟨rfl, rfl⟩
    ·
      rintro _ _ ⟨rfl, rfl⟩
      refine AnyW.onlyQ 1 rfl (by kernel_rfl) rfl (dst_lt rfl) (q_convInt rfl Try.underlying5 rfl) ?_
      refine AnyW.only 2 rfl (by kernel_rfl) rfl (dst_lt rfl) (s_buildSlice (z := .int .u8 0) (vs := nums .u8 [_]) hS7 Try.underlying72 (by kernel_rfl) (by kernel_rfl) rfl (by rfl) (by rfl) (by decide) rfl (nums_one _ _) rfl) ?_
      rintro v5 H10 hS10
      clear hS7
      refine AnyW.onlyQ 3 rfl (by kernel_rfl) rfl (dst_lt rfl) (q_stringVec (hS10.vec at0) Try.underlying72 Try.underlying5 Try.underlying9 rfl) ?_
      refine AnyW.onlyQ 6 rfl (by kernel_rfl) rfl (dst_lt rfl) (q_cat rfl rfl (by first | (with_reducible assumption) | omega | (unfold maxLen; omega) | (simp only [nums_length, List.length_set, List.length_replicate, List.length_take, List.length_drop, List.length_append, List.length_cons, List.length_nil, ofB_length, toB_length]; omega) | (simp only [nums_length, List.length_set, List.length_replicate, List.length_take, List.length_drop, List.length_append, List.length_cons, List.length_nil, ofB_length, toB_length]; unfold maxLen; omega) | (simp; done) | (simp; omega) | rfl | decide)) ?_
      refine AnyW.onlyQ 7 rfl (by kernel_rfl) rfl (dst_lt rfl) (q_assign (v := S _) rfl) ?_
      refine AnyW.done (by kernel_rfl) ?_
      refine SeqP.go ?_
      refine AW.ret ?_
      refine RetP.mk1 (H' := _) (v1 := S _) rfl rfl  hS10.le ?_
      exact ⟨rfl, rfl⟩
theorem awake_con : Con Try.prog w0 9 #[] H (fun v H' => v = .bool true ∧ H' = H) := by
  have hS0 : Sep H [] H := Sep.refl
  refine Con.intro Try.func9 rfl rfl ?_
  refine AW.seq ?_
  refine AW.region ?_
  refine OpsW.q rfl (q_assign (v := .bool _) rfl) ?_
  refine OpsW.nil ?_
  refine SeqP.go ?_
  refine AW.seq ?_
  refine AW.region ?_
  refine OpsW.m rfl (s_makeSliceB (by_ := 1) hS0 Try.underlying72 (by kernel_rfl) (by kernel_rfl) (by kernel_rfl) rfl rfl (by first | omega | decide) (by first | omega | decide) (by first | (with_reducible assumption) | omega | (unfold maxLen; omega) | (simp only [nums_length, List.length_set, List.length_replicate, List.length_take, List.length_drop, List.length_append, List.length_cons, List.length_nil, ofB_length, toB_length]; omega) | (simp only [nums_length, List.length_set, List.length_replicate, List.length_take, List.length_drop, List.length_append, List.length_cons, List.length_nil, ofB_length, toB_length]; unfold maxLen; omega) | (simp; done) | (simp; omega) | rfl | decide) (by first | (with_reducible assumption) | omega | (unfold maxLen; omega) | (simp only [nums_length, List.length_set, List.length_replicate, List.length_take, List.length_drop, List.length_append, List.length_cons, List.length_nil, ofB_length, toB_length]; omega) | (simp only [nums_length, List.length_set, List.length_replicate, List.length_take, List.length_drop, List.length_append, List.length_cons, List.length_nil, ofB_length, toB_length]; unfold maxLen; omega) | (simp; done) | (simp; omega) | rfl | decide) (by first | (with_reducible assumption) | omega | (unfold maxLen; omega) | (simp only [nums_length, List.length_set, List.length_replicate, List.length_take, List.length_drop, List.length_append, List.length_cons, List.length_nil, ofB_length, toB_length]; omega) | (simp only [nums_length, List.length_set, List.length_replicate, List.length_take, List.length_drop, List.length_append, List.length_cons, List.length_nil, ofB_length, toB_length]; unfold maxLen; omega) | (simp; done) | (simp; omega) | rfl | decide)) ?_
  rintro v10 H1 hS1
  clear hS0
  refine OpsW.q rfl (q_stringB (hS1.vec at0) Try.underlying72 Try.underlying5 Try.underlying9 rfl) ?_
  refine OpsW.q rfl (o_call rfl Try.func10 rfl rfl (Verify_con (by decide))) ?_
  rw [ver_e1 _ (by first | rfl | decide)]
  refine OpsW.q rfl (q_move (v := .tuple _) rfl) ?_
  refine OpsW.q rfl (q_extract (v := .int _ _) rfl rfl) ?_
  refine OpsW.q rfl (q_extract (v := .int _ _) rfl rfl) ?_
  refine OpsW.q rfl (q_assign (v := .int _ _) rfl) ?_
  refine OpsW.q rfl (q_assign (v := .int _ _) rfl) ?_
  refine OpsW.nil ?_
  refine SeqP.go ?_
  refine AW.seq ?_
  refine AW.region ?_
  refine OpsW.q rfl (o_call rfl Try.func10 rfl rfl (Verify_con (by decide))) ?_
  rw [ver_e2]
  refine OpsW.q rfl (q_move (v := .tuple _) rfl) ?_
  refine OpsW.q rfl (q_extract (v := .int _ _) rfl rfl) ?_
  refine OpsW.q rfl (q_extract (v := .int _ _) rfl rfl) ?_
  refine OpsW.q rfl (q_assign (v := .int _ _) rfl) ?_
  refine OpsW.q rfl (q_assign (v := .int _ _) rfl) ?_
  refine OpsW.nil ?_
  refine SeqP.go ?_
  refine AW.seq ?_
  refine AW.region ?_
  refine OpsW.m rfl (o_call rfl Try.func14 rfl rfl (New_e (n := 1000) (by decide))) ?_
  rintro _ H2 ⟨b20, rfl, hR2⟩
  have hS2 := hS1.join hR2
  simp only [List.cons_append, List.nil_append] at hS2
  clear hR2 hS1
  refine OpsW.q rfl (q_move (v := .tuple _) rfl) ?_
  refine OpsW.q rfl (q_extract (v := .pointer _) rfl rfl) ?_
  refine OpsW.q rfl (q_extract (v := .int _ _) rfl rfl) ?_
  refine OpsW.q rfl (q_assign (v := .pointer _) rfl) ?_
  refine OpsW.q rfl (q_assign (v := .int _ _) rfl) ?_
  refine OpsW.nil ?_
  refine SeqP.go ?_
  refine AW.seq ?_
  refine AW.region ?_
  refine OpsW.q rfl (q_move (v := .pointer _) rfl) ?_
  obtain ⟨Hf3, le3, hA3, hB3⟩ := hS2.framed at0
  refine OpsW.m rfl (o_call rfl Try.func15 rfl rfl (Open_e hA3 (stok_new (by decide)) (openS_new (by decide)).1 (openS_new (by decide)).2)) ?_
  rintro _ H3 ⟨b25, rfl, hR3⟩
  have hS3 := hB3 _ _ hR3
  clear hR3 hB3 hA3
  clear hS2
  refine OpsW.q rfl (q_move (v := .tuple _) rfl) ?_
  refine OpsW.q rfl (q_extract (v := .pointer _) rfl rfl) ?_
  refine OpsW.q rfl (q_extract (v := .int _ _) rfl rfl) ?_
  refine OpsW.q rfl (q_assign (v := .pointer _) rfl) ?_
  refine OpsW.q rfl (q_assign (v := .int _ _) rfl) ?_
  refine OpsW.nil ?_
  refine SeqP.go ?_
  refine AW.seq ?_
  refine AW.region ?_
  refine OpsW.q rfl (q_move (v := .int _ _) rfl) ?_
  refine OpsW.q rfl (q_eql rfl rfl) ?_
  refine OpsW.q rfl (q_move (v := .bool true) rfl) ?_
  refine OpsW.qw rfl rfl (q_move (v := .int _ _) rfl) ?_
  refine OpsW.qw rfl rfl (q_eql rfl rfl) ?_
  refine OpsW.q rfl (q_and2 rfl rfl rfl) ?_
  refine OpsW.q rfl (q_move (v := .bool true) rfl) ?_
  refine OpsW.qw rfl rfl (q_move (v := .int _ _) rfl) ?_
  refine OpsW.qw rfl rfl (q_eql rfl rfl) ?_
  refine OpsW.q rfl (q_and2 rfl rfl rfl) ?_
  refine OpsW.q rfl (q_move (v := .bool true) rfl) ?_
  refine OpsW.qw rfl rfl (q_move (v := .int _ _) rfl) ?_
  refine OpsW.qw rfl rfl (q_eql rfl rfl) ?_
  refine OpsW.q rfl (q_and2 rfl rfl rfl) ?_
  refine OpsW.q rfl (q_move (v := .bool true) rfl) ?_
  refine OpsW.qw rfl rfl (q_move (v := .int _ _) rfl) ?_
  refine OpsW.qw rfl rfl (q_eql rfl rfl) ?_
  refine OpsW.q rfl (q_and2 rfl rfl rfl) ?_
  refine OpsW.q rfl (q_move (v := .bool true) rfl) ?_
  refine OpsW.qw rfl rfl (q_move (v := .pointer _) rfl) ?_
  refine OpsW.qw rfl rfl (o_call rfl Try.func16 rfl rfl (sender_con _)) ?_
  refine OpsW.qw rfl rfl (q_build (cells := #[.int .i64 2, S [120]]) rfl (by kernel_rfl)) ?_
  obtain ⟨Hf4, le4, hA4, hB4⟩ := hS3.framed at0
  refine OpsW.mw rfl rfl (o_call rfl Try.func17 rfl rfl (Add_e hA4 stok0 (stok_new (by decide)) (by decide) rfl (aw_add1 rfl))) ?_
  rintro _ H4 ⟨rfl, hR4⟩
  have hS4 := hB4 _ _ hR4
  clear hR4 hB4 hA4
  clear hS3
  refine OpsW.qw rfl rfl (q_eql rfl rfl) ?_
  refine OpsW.q rfl (q_and2 rfl rfl rfl) ?_
  refine OpsW.q rfl (q_move (v := .bool true) rfl) ?_
  refine OpsW.qw rfl rfl (q_move (v := .pointer _) rfl) ?_
  refine OpsW.qw rfl rfl (o_call rfl Try.func16 rfl rfl (sender_con _)) ?_
  refine OpsW.qw rfl rfl (q_build (cells := #[.int .i64 1, S [120]]) rfl (by kernel_rfl)) ?_
  obtain ⟨Hf5, le5, hA5, hB5⟩ := hS4.framed at0
  refine OpsW.mw rfl rfl (o_call rfl Try.func17 rfl rfl (Add_c hA5 stok0 (stok_new (by decide)) (by decide) rfl)) ?_
  rintro _ H5 ⟨rfl, hR5⟩
  have hS5 := hB5 _ _ hR5
  clear hR5 hB5 hA5
  clear hS4
  rw [aw_add2]
  refine OpsW.qw rfl rfl (q_eql rfl rfl) ?_
  refine OpsW.q rfl (q_and2 rfl rfl rfl) ?_
  refine OpsW.q rfl (q_assign (v := .bool _) rfl) ?_
  refine OpsW.nil ?_
  refine SeqP.go ?_
  refine AW.ret ?_
  refine RetP.mk1 (H' := H) (v1 := .bool _) rfl rfl  hS5.le ?_
  refine ⟨?_, rfl⟩
  simp_all
theorem stnil_con (who : List UInt8) (n : Int) : Con Try.prog w0 6 #[S who, .int .i64 n] H (fun v H' => v = .bool true ∧ H' = H) := by
  have hS0 : Sep H [] H := Sep.refl
  refine Con.intro Try.func6 rfl rfl ?_
  refine AW.seq ?_
  refine AW.region ?_
  refine OpsW.q rfl (q_assign (v := .bool _) rfl) ?_
  refine OpsW.nil ?_
  refine SeqP.go ?_
  refine AW.seq ?_
  refine AW.region ?_
  refine OpsW.q rfl (q_assign (v := .pointer _) rfl) ?_
  refine OpsW.nil ?_
  refine SeqP.go ?_
  refine AW.seq ?_
  refine AW.region ?_
  refine OpsW.q rfl (o_call rfl Try.func15 rfl rfl (Open_nil)) ?_
  refine OpsW.q rfl (q_move (v := .tuple _) rfl) ?_
  refine OpsW.q rfl (q_extract (v := .pointer _) rfl rfl) ?_
  refine OpsW.q rfl (q_extract (v := .int _ _) rfl rfl) ?_
  refine OpsW.q rfl (q_assign (v := .pointer _) rfl) ?_
  refine OpsW.q rfl (q_assign (v := .int _ _) rfl) ?_
  refine OpsW.nil ?_
  refine SeqP.go ?_
  refine AW.seq ?_
  refine AW.region ?_
  refine OpsW.q rfl (q_move (v := .pointer _) rfl) ?_
  refine OpsW.q rfl (q_eqlP Try.underlying35 rfl rfl) ?_
  refine OpsW.q rfl (q_move (v := .bool true) rfl) ?_
  refine OpsW.qw rfl rfl (q_move (v := .int _ _) rfl) ?_
  refine OpsW.qw rfl rfl (q_eql rfl rfl) ?_
  refine OpsW.q rfl (q_and2 rfl rfl rfl) ?_
  refine OpsW.q rfl (q_move (v := .bool true) rfl) ?_
  refine OpsW.qw rfl rfl (q_move (v := .pointer _) rfl) ?_
  refine OpsW.qw rfl rfl (q_move (v := S _) rfl) ?_
  refine OpsW.qw rfl rfl (q_move (v := .int _ _) rfl) ?_
  refine OpsW.qw rfl rfl (q_build (cells := #[.int .i64 n, S [120]]) rfl (by kernel_rfl)) ?_
  refine OpsW.qw rfl rfl (o_call rfl Try.func17 rfl rfl (Add_nil)) ?_
  refine OpsW.qw rfl rfl (q_eql rfl rfl) ?_
  refine OpsW.q rfl (q_and2 rfl rfl rfl) ?_
  refine OpsW.q rfl (q_move (v := .bool true) rfl) ?_
  refine OpsW.qw rfl rfl (q_move (v := .pointer _) rfl) ?_
  refine OpsW.qw rfl rfl (q_move (v := S _) rfl) ?_
  refine OpsW.qw rfl rfl (o_call rfl Try.func18 rfl rfl (Mark_nil)) ?_
  refine OpsW.qw rfl rfl (q_eql rfl rfl) ?_
  refine OpsW.q rfl (q_and2 rfl rfl rfl) ?_
  refine OpsW.q rfl (q_move (v := .bool true) rfl) ?_
  refine OpsW.qw rfl rfl (q_move (v := .pointer _) rfl) ?_
  refine OpsW.qw rfl rfl (q_move (v := S _) rfl) ?_
  refine OpsW.qw rfl rfl (o_call rfl Try.func19 rfl rfl (Of_nil)) ?_
  refine OpsW.qw rfl rfl (q_lenV Try.underlying46 rfl) ?_
  refine OpsW.qw rfl rfl (q_eql rfl rfl) ?_
  refine OpsW.q rfl (q_and2 rfl rfl rfl) ?_
  refine OpsW.q rfl (q_move (v := .bool true) rfl) ?_
  refine OpsW.qw rfl rfl (q_move (v := .pointer _) rfl) ?_
  refine OpsW.qw rfl rfl (o_call rfl Try.func20 rfl rfl (Head_nil)) ?_
  refine OpsW.qw rfl rfl (q_eqS rfl rfl) ?_
  refine OpsW.q rfl (q_and2 rfl rfl rfl) ?_
  refine OpsW.q rfl (q_move (v := .bool true) rfl) ?_
  refine OpsW.qw rfl rfl (o_call rfl Try.func9 rfl rfl (awake_con)) ?_
  refine OpsW.q rfl (q_and2 rfl rfl rfl) ?_
  refine OpsW.q rfl (q_assign (v := .bool _) rfl) ?_
  refine OpsW.nil ?_
  refine SeqP.go ?_
  refine AW.ret ?_
  refine RetP.mk1 (H' := H) (v1 := .bool _) rfl rfl  hS0.le ?_
  refine ⟨?_, rfl⟩
  simp_all
theorem verifies_con (data head : List UInt8) : Con Try.prog w0 3 #[S data, S head] H (fun v H' => v = .bool true ∧ H' = H) := by
  have hS0 : Sep H [] H := Sep.refl
  refine Con.intro Try.func3 rfl rfl ?_
  refine AW.seq ?_
  refine AW.region ?_
  refine OpsW.q rfl (q_assign (v := .bool _) rfl) ?_
  refine OpsW.nil ?_
  refine SeqP.go ?_
  refine AW.seq ?_
  refine AW.seq ?_
  refine AW.region ?_
  refine OpsW.q rfl (q_move (v := S _) rfl) ?_
  refine OpsW.q rfl (q_lenS Try.underlying9 rfl) ?_
  refine OpsW.q rfl (q_gtr rfl rfl) ?_
  refine OpsW.nil ?_
  refine SeqP.go ?_
  refine AW.cond rfl (fun h0 => ?_) (fun h0 => ?_)
  ·
    try simp only [decide_eq_true_eq, decide_eq_false_iff_not, Bool.or_eq_true, Bool.and_eq_true, Bool.or_eq_false_iff, Bool.and_eq_false_imp, Bool.not_eq_true', Bool.not_eq_false', ne_eq, Decidable.not_not, Int.not_lt, Int.not_le, Bool.not_eq_true, Bool.not_eq_false] at h0
    refine AW.seq ?_
    refine AW.region ?_
    refine OpsW.q rfl (o_call rfl Try.func9 rfl rfl (awake_con)) ?_
    refine OpsW.q rfl (q_assign (v := .bool _) rfl) ?_
    refine OpsW.nil ?_
    refine SeqP.go ?_
    refine AW.ret ?_
    refine SeqP.ret ?_
    refine RetP.mk1 (H' := H) (v1 := .bool _) rfl rfl  hS0.le ?_
    refine ⟨?_, rfl⟩
    simp_all
  try simp only [decide_eq_true_eq, decide_eq_false_iff_not, Bool.or_eq_true, Bool.and_eq_true, Bool.or_eq_false_iff, Bool.and_eq_false_imp, Bool.not_eq_true', Bool.not_eq_false', ne_eq, Decidable.not_not, Int.not_lt, Int.not_le, Bool.not_eq_true, Bool.not_eq_false] at h0
  refine AW.skip ?_
  refine SeqP.go ?_
  refine AW.seq ?_
  refine AW.region ?_
  refine OpsW.q rfl (q_move (v := S _) rfl) ?_
  refine OpsW.q rfl (q_move (v := S _) rfl) ?_
  refine OpsW.q rfl (o_call rfl Try.func10 rfl rfl (Verify_con (by omega))) ?_
  refine OpsW.q rfl (q_move (v := .tuple _) rfl) ?_
  refine OpsW.q rfl (q_extract (v := .int _ _) rfl rfl) ?_
  refine OpsW.q rfl (q_extract (v := .int _ _) rfl rfl) ?_
  refine OpsW.q rfl (q_assign (v := .int _ _) rfl) ?_
  refine OpsW.q rfl (q_assign (v := .int _ _) rfl) ?_
  refine OpsW.nil ?_
  refine SeqP.go ?_
  refine AW.seq ?_
  refine AW.region ?_
  refine OpsW.q rfl (q_move (v := S _) rfl) ?_
  refine OpsW.q rfl (q_move (v := S _) rfl) ?_
  refine OpsW.q rfl (o_call rfl Try.func11 rfl rfl (VerifyR_con (by omega))) ?_
  refine OpsW.q rfl (q_move (v := .tuple _) rfl) ?_
  refine OpsW.q rfl (q_extract (v := .int _ _) rfl rfl) ?_
  refine OpsW.q rfl (q_extract (v := .int _ _) rfl rfl) ?_
  refine OpsW.q rfl (q_assign (v := .int _ _) rfl) ?_
  refine OpsW.q rfl (q_assign (v := .int _ _) rfl) ?_
  refine OpsW.nil ?_
  refine SeqP.go ?_
  refine AW.seq ?_
  refine AW.region ?_
  refine OpsW.q rfl (q_move (v := .int _ _) rfl) ?_
  refine OpsW.q rfl (q_move (v := .int _ _) rfl) ?_
  refine OpsW.q rfl (q_eql rfl rfl) ?_
  rw [decide_eq_true (rfl : (verS data z32 head).1 = _)]
  refine OpsW.q rfl (q_move (v := .bool true) rfl) ?_
  refine OpsW.qw rfl rfl (q_move (v := .int _ _) rfl) ?_
  refine OpsW.qw rfl rfl (q_move (v := .int _ _) rfl) ?_
  refine OpsW.qw rfl rfl (q_eql rfl rfl) ?_
  rw [decide_eq_true (rfl : (verS data z32 head).2 = _)]
  refine OpsW.q rfl (q_and2 rfl rfl rfl) ?_
  refine OpsW.q rfl (q_move (v := .bool true) rfl) ?_
  refine OpsW.qw rfl rfl (o_call rfl Try.func9 rfl rfl (awake_con)) ?_
  refine OpsW.q rfl (q_and2 rfl rfl rfl) ?_
  refine OpsW.q rfl (q_assign (v := .bool _) rfl) ?_
  refine OpsW.nil ?_
  refine SeqP.go ?_
  refine AW.ret ?_
  refine RetP.mk1 (H' := H) (v1 := .bool _) rfl rfl  hS0.le ?_
  refine ⟨?_, rfl⟩
  simp_all
end
end Go.Proofs.Ytfiojlmccflplaa

