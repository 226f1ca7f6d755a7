/-
  The walks of the statements of chapter 23: a nil spool, and room.
-/
import Derived.Test.YtpaombkodoofgaaDQ
import Derived.Test.YtpaombkodoofgaaProg
import Derived.Test.YtpaombkodoofgaaSu
import Derived.Test.YtpaombkodoofgaaTn
import Derived.Test.YtpaombkodoofgaaSpLaw
namespace Go.Proofs.Ytpaombkodoofgaa
open Go Go.RowKit D
set_option linter.unusedVariables false
set_option linter.unusedSimpArgs false
set_option maxRecDepth 100000
set_option maxHeartbeats 2000000
section
variable {w0 : World} {H : Hp} {H0 : Hp}

theorem New_e {n : Int} (h : 1 ≤ n ∧ n ≤ 16777216) : Con Try.prog w0 12 #[.int .i64 n] H (fun v H' => ∃ b, v = .tuple #[PT b, .int .i64 0] ∧ Sep H [tapeC b ⟨n, [], [], 0, false⟩] H') :=
  (New_s n).mono fun _ _ h1 => h1.elim (fun h2 => absurd h2.1 (by omega)) (fun h2 => h2.2)
section
variable {L : List Chunk} {F : Chunk → List Chunk} {b tb : Nat} {x x' : SpF} {t t' : TapeS} {st : SpS} {d : List UInt8} {n mo z e : Int}
theorem Put_c (h : Sep H0 [spC b tb x t] H) (hok : SpOk x.st) (htk : TapeOk t) (hd : d.length ≤ 1099511627776) : Con Try.prog w0 7 #[PT b, S d] H (fun v H' => v = .tuple #[.int .i64 (putP t x d).1, .int .i64 (putP t x d).2.1] ∧ Sep H0 [spC b tb (putP t x d).2.2.1 (putP t x d).2.2.2] H') := by
  obtain ⟨lv, h1⟩ := sp_open h
  exact (Put_w h1 hok htk hd).mono fun _ _ ⟨h2, lv', h3⟩ => ⟨h2, sp_close h3⟩
theorem Put_e (h : Sep H0 [spC b tb x t] H) (hok : SpOk x.st) (htk : TapeOk t) (hd : d.length ≤ 1099511627776) (he : putP t x d = (z, e, x', t')) : Con Try.prog w0 7 #[PT b, S d] H (fun v H' => v = .tuple #[.int .i64 z, .int .i64 e] ∧ Sep H0 [spC b tb x' t'] H') := by
  have := Put_c (w0 := w0) h hok htk hd; rw [he] at this; exact this
theorem Ack_c (h : Sep H0 [spC b tb x t] H) (hok : SpOk x.st) (htk : TapeOk t) : Con Try.prog w0 9 #[PT b, .int .i64 n] H (fun v H' => v = .int .i64 (ackP t x n).1 ∧ Sep H0 [spC b tb (ackP t x n).2.1 (ackP t x n).2.2] H') := by
  obtain ⟨lv, h1⟩ := sp_open h
  exact (Ack_w h1 hok htk).mono fun _ _ ⟨h2, lv', h3⟩ => ⟨h2, sp_close h3⟩
theorem Ack_e (h : Sep H0 [spC b tb x t] H) (hok : SpOk x.st) (htk : TapeOk t) (he : ackP t x n = (e, x', t')) : Con Try.prog w0 9 #[PT b, .int .i64 n] H (fun v H' => v = .int .i64 e ∧ Sep H0 [spC b tb x' t'] H') := by
  have := Ack_c (w0 := w0) (n := n) h hok htk; rw [he] at this; exact this
theorem Open_e {rm : Int} (h : Sep H0 [tapeC tb t] H) (htk : TapeOk t) (he : openP t rm = (0, t')) (hs : (scanP sp0 (t.f ++ t.l)).2 = st) : Con Try.prog w0 6 #[PT tb, .int .i64 rm] H (fun v H' => ∃ b, v = .tuple #[PT b, .int .i64 0] ∧ Sep H0 [spC b tb ⟨st, rm, false⟩ t'] H') :=
  (Open_w h htk).mono fun _ _ h1 => h1.elim (fun h2 => absurd (by rw [he]) h2.1) (fun ⟨_, b, h2, h3⟩ => ⟨b, h2, by rw [he, hs] at h3; exact h3⟩)
theorem From_c (h : Sep H0 L H) (hA : At L (spC b tb x t) F) (hl : x.st.l.length ≤ 1000000000) : Con Try.prog w0 10 #[PT b, .int .i64 n, .int .i64 mo] H (fun v H' => Sep H [.vec v 46 2 (fromP x.st.l n mo).length (rowsV recC (fromP x.st.l n mo))] H') := by
  obtain ⟨lv, h1, h2⟩ := sp_look h hA
  exact From_con h1 h2 hl
theorem Marks_c (h : Sep H0 L H) (hA : At L (spC b tb x t) F) : Con Try.prog w0 8 #[PT b] H (fun v H' => v = .tuple #[.int .i64 x.st.ak, .int .i64 x.st.la] ∧ H' = H) := by
  obtain ⟨lv, h1, h2⟩ := sp_look h hA
  exact Marks_con h1
theorem Arm_c (h : Sep H0 [spC b tb x t] H) : Con Try.prog w0 13 #[PT tb, .int .i64 n] H (fun v H' => v = .tuple #[] ∧ Sep H0 [spC b tb x (armP t n)] H') := by
  obtain ⟨lv, h1⟩ := sp_open h
  obtain ⟨Hf, _, hA, hB⟩ := h1.framed at2
  exact (Arm_s hA n).mono fun _ _ ⟨h2, h3⟩ => ⟨h2, sp_close (hB _ _ h3)⟩
end

theorem aw_t (k : Nat) (f : List UInt8) (h : f.length ≤ 900) : TapeOk ⟨1000, f, [], 0, false⟩ := ⟨by show (1000 : Int) ≤ _; omega, by show ((f.length + 0 : Nat) : Int) ≤ 1000; omega, by show (0 : Int) ≤ 0; omega, by show (0 : Int) ≤ _; omega⟩
theorem aw_ok1 : SpOk (⟨[⟨1, [97]⟩], 0, 1⟩ : SpS) := put_good (st := sp0) (d := [97]) spok0 (by decide)
theorem aw_ok2 : SpOk (⟨[⟨1, [97]⟩, ⟨2, [98]⟩], 0, 2⟩ : SpS) := put_good (d := [98]) aw_ok1 (by decide)
theorem aw_lay {x : SpF} {f body : List UInt8} (h : f.length + (frB body).length ≤ 900) : layP ⟨1000, f, [], 0, false⟩ x body = (0, { x with st := (takeP x.st body).2 }, ⟨1000, f ++ frB body, [], 0, false⟩) :=
  lay_free rfl rfl rfl (by show ((f.length + (frB body).length : Nat) : Int) ≤ 1000; omega)
theorem aw_p1 : putP ⟨1000, [], [], 0, false⟩ ⟨sp0, 9, false⟩ [97] = (1, 0, (⟨⟨[⟨1, [97]⟩], 0, 1⟩, 9, false⟩ : SpF), ⟨1000, [] ++ frB (msgB 1 [97]), [], 0, false⟩) := by
  have e := aw_lay (x := ⟨sp0, 9, false⟩) (f := []) (body := msgB (sp0.la + 1) [97]) (by rw [frB_len, msgB_len]; decide)
  rw [put_ok rfl (by decide) (by decide) (by rw [e]), e, take_put spok0 (by decide) (by decide)]
  rfl
theorem aw_p2 {f : List UInt8} (h : f.length ≤ 100) : putP ⟨1000, f, [], 0, false⟩ (⟨⟨[⟨1, [97]⟩], 0, 1⟩, 9, false⟩ : SpF) [98] = (2, 0, (⟨⟨[⟨1, [97]⟩, ⟨2, [98]⟩], 0, 2⟩, 9, false⟩ : SpF), ⟨1000, f ++ frB (msgB 2 [98]), [], 0, false⟩) := by
  have e := aw_lay (x := (⟨⟨[⟨1, [97]⟩], 0, 1⟩, 9, false⟩ : SpF)) (f := f) (body := msgB ((1 : Int) + 1) [98]) (by rw [frB_len, msgB_len]; show f.length + (12 + (5 + 1)) ≤ 900; omega)
  rw [put_ok rfl (by decide) (by decide) (by show (layP _ _ (msgB ((1 : Int) + 1) [98])).1 = 0; rw [e])]
  show ((layP ⟨1000, f, [], 0, false⟩ (⟨⟨[⟨1, [97]⟩], 0, 1⟩, 9, false⟩ : SpF) (msgB ((1 : Int) + 1) [98])).2.1.st.la, layP ⟨1000, f, [], 0, false⟩ (⟨⟨[⟨1, [97]⟩], 0, 1⟩, 9, false⟩ : SpF) (msgB ((1 : Int) + 1) [98])) = _
  rw [e, show takeP ((⟨⟨[⟨1, [97]⟩], 0, 1⟩, 9, false⟩ : SpF)).st (msgB ((1 : Int) + 1) [98]) = _ from take_put aw_ok1 (by decide) (by decide)]
  rfl
theorem aw_a1 {f : List UInt8} (h : f.length ≤ 100) : ackP ⟨1000, f, [], 0, false⟩ (⟨⟨[⟨1, [97]⟩, ⟨2, [98]⟩], 0, 2⟩, 9, false⟩ : SpF) 1 = (0, (⟨⟨[⟨2, [98]⟩], 1, 2⟩, 9, false⟩ : SpF), ⟨1000, f ++ frB (markB 1), [], 0, false⟩) := by
  have e := aw_lay (x := (⟨⟨[⟨1, [97]⟩, ⟨2, [98]⟩], 0, 2⟩, 9, false⟩ : SpF)) (f := f) (body := markB 1) (by rw [frB_len, markB_len]; omega)
  rw [ack_go rfl (by decide) (by decide), e, take_ack aw_ok2 (by decide) (by decide)]
  have : kp 1 ((⟨⟨[⟨1, [97]⟩, ⟨2, [98]⟩], 0, 2⟩, 9, false⟩ : SpF)).st.l = [⟨2, [98]⟩] := by decide
  rw [this]
theorem aw_f : fromP ((⟨⟨[⟨2, [98]⟩], 1, 2⟩, 9, false⟩ : SpF)).st.l 0 9 = [⟨2, [98]⟩] := by rw [fromP_def]; decide

theorem awake_con : Con Try.prog w0 11 #[] H (fun v H' => v = .bool true ∧ H' = H) := by
  have hS0 : Sep H [] H := Sep.refl
  refine Con.intro Try.func11 rfl rfl ?_
  refine AW.seq ?_
  refine AW.region ?_
  refine OpsW.q rfl (q_assign (v := .bool _) rfl) ?_
  refine OpsW.nil ?_
  refine SeqP.go ?_
  refine AW.seq ?_
  refine AW.region ?_
  refine OpsW.m rfl (o_call rfl Try.func12 rfl rfl (New_e (n := 1000) (by decide))) ?_
  rintro _ H1 ⟨b11, rfl, hR1⟩
  have hS1 := hS0.join hR1
  simp only [List.cons_append, List.nil_append] at hS1
  clear hR1 hS0
  refine OpsW.q rfl (q_move (v := .tuple _) rfl) ?_
  refine OpsW.q rfl (q_extract (v := .pointer _) rfl rfl) ?_
  refine OpsW.q rfl (q_extract (v := .int _ _) rfl rfl) ?_
  refine OpsW.q rfl (q_assign (v := .pointer _) rfl) ?_
  refine OpsW.q rfl (q_assign (v := .int _ _) rfl) ?_
  refine OpsW.nil ?_
  refine SeqP.go ?_
  refine AW.seq ?_
  refine AW.region ?_
  refine OpsW.q rfl (q_move (v := .pointer _) rfl) ?_
  obtain ⟨Hf2, le2, hA2, hB2⟩ := hS1.framed at0
  refine OpsW.m rfl (o_call rfl Try.func6 rfl rfl (Open_e hA2 (aw_t 0 [] (by decide)) (open_new (by decide)).1 (by rw [(open_new (n := 1000) (rm := 9) (by decide)).2]))) ?_
  rintro _ H2 ⟨b16, rfl, hR2⟩
  have hS2 := hB2 _ _ hR2
  clear hR2 hB2 hA2
  clear hS1
  refine OpsW.q rfl (q_move (v := .tuple _) rfl) ?_
  refine OpsW.q rfl (q_extract (v := .pointer _) rfl rfl) ?_
  refine OpsW.q rfl (q_extract (v := .int _ _) rfl rfl) ?_
  refine OpsW.q rfl (q_assign (v := .pointer _) rfl) ?_
  refine OpsW.q rfl (q_assign (v := .int _ _) rfl) ?_
  refine OpsW.nil ?_
  refine SeqP.go ?_
  refine AW.seq ?_
  refine AW.seq ?_
  refine AW.region ?_
  refine OpsW.q rfl (q_move (v := .int _ _) rfl) ?_
  refine OpsW.q rfl (q_neq rfl rfl) ?_
  refine OpsW.q rfl (q_move (v := .bool false) rfl) ?_
  refine OpsW.qw rfl rfl (q_move (v := .pointer _) rfl) ?_
  refine OpsW.qw rfl rfl (q_eqlP Try.underlying22 rfl rfl) ?_
  refine OpsW.q rfl (q_or2 rfl rfl rfl) ?_
  refine OpsW.nil ?_
  refine SeqP.go ?_
  refine AW.cond rfl (fun h0 => ?_) (fun h0 => ?_)
  ·
    exfalso
    try simp only [decide_eq_true_eq, decide_eq_false_iff_not, Bool.or_eq_true, Bool.and_eq_true, Bool.or_eq_false_iff, Bool.and_eq_false_imp, Bool.not_eq_true', Bool.not_eq_false', ne_eq, Decidable.not_not, Int.not_lt, Int.not_le, Bool.not_eq_true, Bool.not_eq_false] at h0
    first | contradiction | (simp at *; done) | simp_all
  try simp only [decide_eq_true_eq, decide_eq_false_iff_not, Bool.or_eq_true, Bool.and_eq_true, Bool.or_eq_false_iff, Bool.and_eq_false_imp, Bool.not_eq_true', Bool.not_eq_false', ne_eq, Decidable.not_not, Int.not_lt, Int.not_le, Bool.not_eq_true, Bool.not_eq_false] at h0
  refine AW.skip ?_
  refine SeqP.go ?_
  refine AW.seq ?_
  refine AW.region ?_
  refine OpsW.q rfl (q_move (v := .pointer _) rfl) ?_
  obtain ⟨Hf3, le3, hA3, hB3⟩ := hS2.framed at0
  refine OpsW.m rfl (o_call rfl Try.func7 rfl rfl (Put_e hA3 spok0 (aw_t 0 [] (by decide)) (by decide) aw_p1)) ?_
  rintro _ H3 ⟨rfl, hR3⟩
  have hS3 := hB3 _ _ hR3
  clear hR3 hB3 hA3
  clear hS2
  refine OpsW.q rfl (q_move (v := .tuple _) rfl) ?_
  refine OpsW.q rfl (q_extract (v := .int _ _) rfl rfl) ?_
  refine OpsW.q rfl (q_extract (v := .int _ _) rfl rfl) ?_
  refine OpsW.q rfl (q_assign (v := .int _ _) rfl) ?_
  refine OpsW.q rfl (q_assign (v := .int _ _) rfl) ?_
  refine OpsW.nil ?_
  refine SeqP.go ?_
  refine AW.seq ?_
  refine AW.region ?_
  refine OpsW.q rfl (q_move (v := .pointer _) rfl) ?_
  obtain ⟨Hf4, le4, hA4, hB4⟩ := hS3.framed at0
  refine OpsW.m rfl (o_call rfl Try.func7 rfl rfl (Put_e hA4 aw_ok1 (aw_t 0 _ (by simp [frB_len, msgB_len])) (by decide) (aw_p2 (by simp [frB_len, msgB_len])))) ?_
  rintro _ H4 ⟨rfl, hR4⟩
  have hS4 := hB4 _ _ hR4
  clear hR4 hB4 hA4
  clear hS3
  refine OpsW.q rfl (q_move (v := .tuple _) rfl) ?_
  refine OpsW.q rfl (q_extract (v := .int _ _) rfl rfl) ?_
  refine OpsW.q rfl (q_extract (v := .int _ _) rfl rfl) ?_
  refine OpsW.q rfl (q_assign (v := .int _ _) rfl) ?_
  refine OpsW.q rfl (q_assign (v := .int _ _) rfl) ?_
  refine OpsW.nil ?_
  refine SeqP.go ?_
  refine AW.seq ?_
  refine AW.region ?_
  refine OpsW.q rfl (q_move (v := .pointer _) rfl) ?_
  obtain ⟨Hf5, le5, hA5, hB5⟩ := hS4.framed at0
  refine OpsW.m rfl (o_call rfl Try.func9 rfl rfl (Ack_e hA5 aw_ok2 (aw_t 0 _ (by simp [frB_len, msgB_len])) (aw_a1 (by simp [frB_len, msgB_len])))) ?_
  rintro _ H5 ⟨rfl, hR5⟩
  have hS5 := hB5 _ _ hR5
  clear hR5 hB5 hA5
  clear hS4
  refine OpsW.q rfl (q_assign (v := .int _ _) rfl) ?_
  refine OpsW.nil ?_
  refine SeqP.go ?_
  refine AW.seq ?_
  refine AW.region ?_
  refine OpsW.q rfl (q_move (v := .int _ _) rfl) ?_
  refine OpsW.q rfl (q_eql rfl rfl) ?_
  refine OpsW.q rfl (q_move (v := .bool true) rfl) ?_
  refine OpsW.qw rfl rfl (q_move (v := .int _ _) rfl) ?_
  refine OpsW.qw rfl rfl (q_eql rfl rfl) ?_
  refine OpsW.q rfl (q_and2 rfl rfl rfl) ?_
  refine OpsW.q rfl (q_move (v := .bool true) rfl) ?_
  refine OpsW.qw rfl rfl (q_move (v := .int _ _) rfl) ?_
  refine OpsW.qw rfl rfl (q_eql rfl rfl) ?_
  refine OpsW.q rfl (q_and2 rfl rfl rfl) ?_
  refine OpsW.q rfl (q_move (v := .bool true) rfl) ?_
  refine OpsW.qw rfl rfl (q_move (v := .int _ _) rfl) ?_
  refine OpsW.qw rfl rfl (q_eql rfl rfl) ?_
  refine OpsW.q rfl (q_and2 rfl rfl rfl) ?_
  refine OpsW.q rfl (q_move (v := .bool true) rfl) ?_
  refine OpsW.qw rfl rfl (q_move (v := .int _ _) rfl) ?_
  refine OpsW.qw rfl rfl (q_eql rfl rfl) ?_
  refine OpsW.q rfl (q_and2 rfl rfl rfl) ?_
  refine OpsW.q rfl (q_move (v := .bool true) rfl) ?_
  refine OpsW.qw rfl rfl (q_move (v := .pointer _) rfl) ?_
  refine OpsW.mw rfl rfl (o_call rfl Try.func10 rfl rfl (From_c hS5 at0 (by decide))) ?_
  rintro v57 H6 hR6
  have hS6 := hS5.join hR6
  simp only [List.cons_append, List.nil_append] at hS6
  clear hR6 hS5
  rw [aw_f] at hS6
  refine OpsW.qw rfl rfl (q_build (cells := #[.int .i64 2, S [98]]) rfl (by kernel_rfl)) ?_
  refine OpsW.mw rfl rfl (s_buildSlice2 (z := .agg #[.int .i64 0, S []]) hS6 Try.underlying31 (by kernel_rfl) (by kernel_rfl) rfl) ?_
  rintro v59 H7 hS7
  clear hS6
  refine OpsW.qw rfl rfl (o_call rfl Try.func15 rfl rfl (Same_con (l := [⟨2, [98]⟩]) (m := [⟨2, [98]⟩]) (hS7.vec at1) (hS7.vec at0) (by decide) (by decide))) ?_
  refine OpsW.q rfl (q_and2 rfl rfl rfl) ?_
  refine OpsW.q rfl (q_move (v := .bool true) rfl) ?_
  refine OpsW.qw rfl rfl (q_move (v := .pointer _) rfl) ?_
  obtain ⟨Hf8, le8, hA8, hB8⟩ := hS7.framed at2
  refine OpsW.mw rfl rfl (o_call rfl Try.func9 rfl rfl (Ack_e hA8 (ack_good aw_ok2 (n := 1) (by decide) (by decide)) (aw_t 0 _ (by simp [frB_len, msgB_len, markB_len])) (ack_seq rfl (by decide)))) ?_
  rintro _ H8 ⟨rfl, hR8⟩
  have hS8 := hB8 _ _ hR8
  clear hR8 hB8 hA8
  clear hS7
  refine OpsW.qw rfl rfl (q_eql rfl rfl) ?_
  refine OpsW.q rfl (q_and2 rfl rfl rfl) ?_
  refine OpsW.q rfl (q_assign (v := .bool _) rfl) ?_
  refine OpsW.nil ?_
  refine SeqP.go ?_
  refine AW.ret ?_
  refine RetP.mk1 (H' := H) (v1 := .bool _) rfl rfl  hS8.le ?_
  refine ⟨?_, rfl⟩
  simp_all
theorem spnil_con (d : List UInt8) (n : Int) : Con Try.prog w0 3 #[S d, .int .i64 n] H (fun v H' => v = .bool true ∧ H' = H) := by
  have hS0 : Sep H [] H := Sep.refl
  refine Con.intro Try.func3 rfl rfl ?_
  refine AW.seq ?_
  refine AW.region ?_
  refine OpsW.q rfl (q_assign (v := .bool _) rfl) ?_
  refine OpsW.nil ?_
  refine SeqP.go ?_
  refine AW.seq ?_
  refine AW.region ?_
  refine OpsW.q rfl (q_assign (v := .pointer _) rfl) ?_
  refine OpsW.nil ?_
  refine SeqP.go ?_
  refine AW.seq ?_
  refine AW.region ?_
  refine OpsW.q rfl (q_move (v := .int _ _) rfl) ?_
  refine OpsW.q rfl (o_call rfl Try.func6 rfl rfl (Open_nil)) ?_
  refine OpsW.q rfl (q_move (v := .tuple _) rfl) ?_
  refine OpsW.q rfl (q_extract (v := .pointer _) rfl rfl) ?_
  refine OpsW.q rfl (q_extract (v := .int _ _) rfl rfl) ?_
  refine OpsW.q rfl (q_assign (v := .pointer _) rfl) ?_
  refine OpsW.q rfl (q_assign (v := .int _ _) rfl) ?_
  refine OpsW.nil ?_
  refine SeqP.go ?_
  refine AW.seq ?_
  refine AW.region ?_
  refine OpsW.q rfl (q_move (v := .pointer _) rfl) ?_
  refine OpsW.q rfl (q_move (v := S _) rfl) ?_
  refine OpsW.q rfl (o_call rfl Try.func7 rfl rfl (Put_nil)) ?_
  refine OpsW.q rfl (q_move (v := .tuple _) rfl) ?_
  refine OpsW.q rfl (q_extract (v := .int _ _) rfl rfl) ?_
  refine OpsW.q rfl (q_extract (v := .int _ _) rfl rfl) ?_
  refine OpsW.q rfl (q_assign (v := .int _ _) rfl) ?_
  refine OpsW.q rfl (q_assign (v := .int _ _) rfl) ?_
  refine OpsW.nil ?_
  refine SeqP.go ?_
  refine AW.seq ?_
  refine AW.region ?_
  refine OpsW.q rfl (q_move (v := .pointer _) rfl) ?_
  refine OpsW.q rfl (o_call rfl Try.func8 rfl rfl (Marks_nil)) ?_
  refine OpsW.q rfl (q_move (v := .tuple _) rfl) ?_
  refine OpsW.q rfl (q_extract (v := .int _ _) rfl rfl) ?_
  refine OpsW.q rfl (q_extract (v := .int _ _) rfl rfl) ?_
  refine OpsW.q rfl (q_assign (v := .int _ _) rfl) ?_
  refine OpsW.q rfl (q_assign (v := .int _ _) rfl) ?_
  refine OpsW.nil ?_
  refine SeqP.go ?_
  refine AW.seq ?_
  refine AW.region ?_
  refine OpsW.q rfl (q_move (v := .pointer _) rfl) ?_
  refine OpsW.q rfl (q_eqlP Try.underlying22 rfl rfl) ?_
  refine OpsW.q rfl (q_move (v := .bool true) rfl) ?_
  refine OpsW.qw rfl rfl (q_move (v := .int _ _) rfl) ?_
  refine OpsW.qw rfl rfl (q_eql rfl rfl) ?_
  refine OpsW.q rfl (q_and2 rfl rfl rfl) ?_
  refine OpsW.q rfl (q_move (v := .bool true) rfl) ?_
  refine OpsW.qw rfl rfl (q_move (v := .int _ _) rfl) ?_
  refine OpsW.qw rfl rfl (q_eql rfl rfl) ?_
  refine OpsW.q rfl (q_and2 rfl rfl rfl) ?_
  refine OpsW.q rfl (q_move (v := .bool true) rfl) ?_
  refine OpsW.qw rfl rfl (q_move (v := .int _ _) rfl) ?_
  refine OpsW.qw rfl rfl (q_eql rfl rfl) ?_
  refine OpsW.q rfl (q_and2 rfl rfl rfl) ?_
  refine OpsW.q rfl (q_move (v := .bool true) rfl) ?_
  refine OpsW.qw rfl rfl (q_move (v := .pointer _) rfl) ?_
  refine OpsW.qw rfl rfl (q_move (v := .int _ _) rfl) ?_
  refine OpsW.qw rfl rfl (o_call rfl Try.func9 rfl rfl (Ack_nil)) ?_
  refine OpsW.qw rfl rfl (q_eql rfl rfl) ?_
  refine OpsW.q rfl (q_and2 rfl rfl rfl) ?_
  refine OpsW.q rfl (q_move (v := .bool true) rfl) ?_
  refine OpsW.qw rfl rfl (q_move (v := .pointer _) rfl) ?_
  refine OpsW.qw rfl rfl (q_move (v := .int _ _) rfl) ?_
  refine OpsW.qw rfl rfl (q_move (v := .int _ _) rfl) ?_
  refine OpsW.qw rfl rfl (o_call rfl Try.func10 rfl rfl (From_nil)) ?_
  refine OpsW.qw rfl rfl (q_lenV Try.underlying31 rfl) ?_
  refine OpsW.qw rfl rfl (q_eql rfl rfl) ?_
  refine OpsW.q rfl (q_and2 rfl rfl rfl) ?_
  refine OpsW.q rfl (q_move (v := .bool true) rfl) ?_
  refine OpsW.qw rfl rfl (q_move (v := .int _ _) rfl) ?_
  refine OpsW.qw rfl rfl (q_eql rfl rfl) ?_
  refine OpsW.q rfl (q_and2 rfl rfl rfl) ?_
  refine OpsW.q rfl (q_move (v := .bool true) rfl) ?_
  refine OpsW.qw rfl rfl (q_move (v := .int _ _) rfl) ?_
  refine OpsW.qw rfl rfl (q_eql rfl rfl) ?_
  refine OpsW.q rfl (q_and2 rfl rfl rfl) ?_
  refine OpsW.q rfl (q_move (v := .bool true) rfl) ?_
  refine OpsW.qw rfl rfl (o_call rfl Try.func11 rfl rfl (awake_con)) ?_
  refine OpsW.q rfl (q_and2 rfl rfl rfl) ?_
  refine OpsW.q rfl (q_assign (v := .bool _) rfl) ?_
  refine OpsW.nil ?_
  refine SeqP.go ?_
  refine AW.ret ?_
  refine RetP.mk1 (H' := H) (v1 := .bool _) rfl rfl  hS0.le ?_
  refine ⟨?_, rfl⟩
  simp_all
structure OpS where
  ask : Int
  dat : List UInt8
  n : Int
  sp : Bool
def opCells (o : OpS) : List Value := [.int .i64 o.ask, S o.dat, .int .i64 o.n, .bool o.sp]

theorem room_con (room : Int) {rops : Option Addr} {m c : Nat} (o : Nat → OpS) (hrops : RowsAt w0 rops m 4 fun j => opCells (o j)) (hm : m ≤ maxLen) : Con Try.prog w0 4 #[.int .i64 room, .slice rops m c] H (fun v H' => v = .bool true ∧ H' = H) := by
  have hS0 : Sep H [] H := Sep.refl
  unfold maxLen at hm
  refine Con.intro Try.func4 rfl rfl ?_
  refine AW.seq ?_
  refine AW.region ?_
  refine OpsW.q rfl (q_assign (v := .bool _) rfl) ?_
  refine OpsW.nil ?_
  refine SeqP.go ?_
  refine AW.seq ?_
  refine AW.seq ?_
  refine AW.region ?_
  refine OpsW.q rfl (q_move (v := .int _ _) rfl) ?_
  refine OpsW.q rfl (q_lss rfl rfl) ?_
  refine OpsW.qb rfl (q_move (v := .bool _) rfl) ?_
  intro b17 eb17
  refine OpsW.g rfl rfl rfl (fun hB => by simp only [Bool.and_eq_true, beq_iff_eq] at hB; obtain rfl := hB; exact (q_move (v := .int _ _) rfl)) ?_
  refine OpsW.g rfl rfl rfl (fun hB => by simp only [Bool.and_eq_true, beq_iff_eq] at hB; obtain rfl := hB; exact (q_gtr rfl rfl)) ?_
  refine OpsW.q rfl (q_or2 rfl rfl rfl) ?_
  refine OpsW.nil ?_
  refine SeqP.go ?_
  refine AW.cond rfl (fun h0 => ?_) (fun h0 => ?_)
  ·
    try simp only [eb17, decide_eq_true_eq, decide_eq_false_iff_not, Bool.or_eq_true, Bool.and_eq_true, Bool.or_eq_false_iff, Bool.and_eq_false_imp, Bool.not_eq_true', Bool.not_eq_false', ne_eq, Decidable.not_not, Int.not_lt, Int.not_le, Bool.not_eq_true, Bool.not_eq_false] at h0
    refine AW.seq ?_
    refine AW.region ?_
    refine OpsW.q rfl (o_call rfl Try.func11 rfl rfl (awake_con)) ?_
    refine OpsW.q rfl (q_assign (v := .bool _) rfl) ?_
    refine OpsW.nil ?_
    refine SeqP.go ?_
    refine AW.ret ?_
    refine SeqP.ret ?_
    refine RetP.mk1 (H' := H) (v1 := .bool _) rfl rfl  hS0.le ?_
    exact ⟨rfl, rfl⟩
  try simp only [eb17, decide_eq_true_eq, decide_eq_false_iff_not, Bool.or_eq_true, Bool.and_eq_true, Bool.or_eq_false_iff, Bool.and_eq_false_imp, Bool.not_eq_true', Bool.not_eq_false', ne_eq, Decidable.not_not, Int.not_lt, Int.not_le, Bool.not_eq_true, Bool.not_eq_false] at h0
  have hr : 1 ≤ room ∧ room ≤ 50 := by simp_all <;> omega
  refine AW.skip ?_
  refine SeqP.go ?_
  refine AW.seq ?_
  refine AW.region ?_
  refine OpsW.m rfl (o_call rfl Try.func12 rfl rfl (New_e (n := 4194304) (by decide))) ?_
  rintro _ H1 ⟨b23, rfl, hR1⟩
  have hS1 := hS0.join hR1
  simp only [List.cons_append, List.nil_append] at hS1
  clear hR1 hS0
  refine OpsW.q rfl (q_move (v := .tuple _) rfl) ?_
  refine OpsW.q rfl (q_extract (v := .pointer _) rfl rfl) ?_
  refine OpsW.q rfl (q_extract (v := .int _ _) rfl rfl) ?_
  refine OpsW.q rfl (q_assign (v := .pointer _) rfl) ?_
  refine OpsW.q rfl (q_assign (v := .int _ _) rfl) ?_
  refine OpsW.nil ?_
  refine SeqP.go ?_
  refine AW.seq ?_
  refine AW.region ?_
  refine OpsW.q rfl (q_move (v := .pointer _) rfl) ?_
  refine OpsW.q rfl (q_move (v := .int _ _) rfl) ?_
  obtain ⟨Hf2, le2, hA2, hB2⟩ := hS1.framed at0
  refine OpsW.m rfl (o_call rfl Try.func6 rfl rfl (Open_e hA2 (RoomI.tk (room_new hr) (by omega)) (open_new (by omega)).1 (by rw [(open_new (n := 4194304) (rm := room) (by omega)).2]))) ?_
  rintro _ H2 ⟨b29, rfl, hR2⟩
  have hS2 := hB2 _ _ hR2
  clear hR2 hB2 hA2
  clear hS1
  refine OpsW.q rfl (q_move (v := .tuple _) rfl) ?_
  refine OpsW.q rfl (q_extract (v := .pointer _) rfl rfl) ?_
  refine OpsW.q rfl (q_extract (v := .int _ _) rfl rfl) ?_
  refine OpsW.q rfl (q_assign (v := .pointer _) rfl) ?_
  refine OpsW.q rfl (q_assign (v := .int _ _) rfl) ?_
  refine OpsW.nil ?_
  refine SeqP.go ?_
  refine AW.seq ?_
  refine AW.seq ?_
  refine AW.region ?_
  refine OpsW.q rfl (q_move (v := .int _ _) rfl) ?_
  refine OpsW.q rfl (q_neq rfl rfl) ?_
  refine OpsW.q rfl (q_move (v := .bool false) rfl) ?_
  refine OpsW.qw rfl rfl (q_move (v := .int _ _) rfl) ?_
  refine OpsW.qw rfl rfl (q_neq rfl rfl) ?_
  refine OpsW.q rfl (q_or2 rfl rfl rfl) ?_
  refine OpsW.q rfl (q_move (v := .bool false) rfl) ?_
  refine OpsW.qw rfl rfl (q_move (v := .pointer _) rfl) ?_
  refine OpsW.qw rfl rfl (q_eqlP Try.underlying22 rfl rfl) ?_
  refine OpsW.q rfl (q_or2 rfl rfl rfl) ?_
  refine OpsW.nil ?_
  refine SeqP.go ?_
  refine AW.cond rfl (fun h1 => ?_) (fun h1 => ?_)
  ·
    exfalso
    try simp only [eb17, decide_eq_true_eq, decide_eq_false_iff_not, Bool.or_eq_true, Bool.and_eq_true, Bool.or_eq_false_iff, Bool.and_eq_false_imp, Bool.not_eq_true', Bool.not_eq_false', ne_eq, Decidable.not_not, Int.not_lt, Int.not_le, Bool.not_eq_true, Bool.not_eq_false] at h1
    first | contradiction | (simp at *; done) | simp_all
  try simp only [eb17, decide_eq_true_eq, decide_eq_false_iff_not, Bool.or_eq_true, Bool.and_eq_true, Bool.or_eq_false_iff, Bool.and_eq_false_imp, Bool.not_eq_true', Bool.not_eq_false', ne_eq, Decidable.not_not, Int.not_lt, Int.not_le, Bool.not_eq_true, Bool.not_eq_false] at h1
  refine AW.skip ?_
  refine SeqP.go ?_
  refine AW.seq ?_
  refine AW.seq ?_
  refine AW.region ?_
  refine OpsW.q rfl (q_assign (v := .int _ _) rfl) ?_
  refine OpsW.nil ?_
  refine SeqP.go ?_
  refine AW.block ?_
  refine AW.loop (fun m_ e_ H_ => ∃ (i : Nat) (x : SpF) (t : TapeS) (e0 : Env), m_ = m - i ∧ (RoomI room i x t ∧ i ≤ 60) ∧ e_ = upds e0 [(0, .int .i64 room), (1, .slice rops m c), (7, .pointer (some ⟨b29, 0, none⟩)), (9, .int .i64 (i : Int))] ∧ Sep H [spC b29 b23 x t] H_) _ ⟨0, _, _, _, rfl, ⟨room_new hr, by omega⟩, Slots.eq ⟨(by first | rfl | exact i64_int (by omega) (by omega) (by omega) | assumption), (by first | rfl | exact i64_int (by omega) (by omega) (by omega) | assumption), (by first | rfl | exact i64_int (by omega) (by omega) (by omega) | assumption), (by first | rfl | exact i64_int (by omega) (by omega) (by omega) | assumption),  trivial⟩, hS2⟩ ?_
  rintro m_ _ Hl0 ⟨i, x, t, e0, rfl, ⟨hI, hi60⟩, rfl, hSl0⟩
  try clear hS2
  have hK := hI.ok.1
  have hF := hI.full
  have hL := hI.la
  have hA0 := hI.ok.2.1
  refine AW.seq ?_
  refine AW.seq ?_
  refine AW.region ?_
  refine OpsW.q rfl (q_move (v := .int _ _) rfl) ?_
  refine OpsW.q rfl (q_move (v := .slice _ _ _) rfl) ?_
  refine OpsW.q rfl (q_lenV Try.underlying35 rfl) ?_
  refine OpsW.q rfl (q_lss rfl rfl) ?_
  refine OpsW.qb rfl (q_move (v := .bool _) rfl) ?_
  intro b46 eb46
  refine OpsW.g rfl rfl rfl (fun hB => by simp only [Bool.and_eq_true, beq_iff_eq] at hB; obtain rfl := hB; exact (q_move (v := .int _ _) rfl)) ?_
  refine OpsW.g rfl rfl rfl (fun hB => by simp only [Bool.and_eq_true, beq_iff_eq] at hB; obtain rfl := hB; exact (q_lss rfl rfl)) ?_
  refine OpsW.q rfl (q_and2 rfl rfl rfl) ?_
  refine OpsW.nil ?_
  refine SeqP.go ?_
  refine AW.cond2 rfl (fun h2 => ?_) (fun h2 => ?_)
  ·
    try simp only [eb17, eb46, decide_eq_true_eq, decide_eq_false_iff_not, Bool.or_eq_true, Bool.and_eq_true, Bool.or_eq_false_iff, Bool.and_eq_false_imp, Bool.not_eq_true', Bool.not_eq_false', ne_eq, Decidable.not_not, Int.not_lt, Int.not_le, Bool.not_eq_true, Bool.not_eq_false] at h2
    refine AW.exit ?_
    refine SeqP.exit ?_
    refine LoopP.exit ?_
    refine BlockP.here ?_
    refine SeqP.go ?_
    refine AW.seq ?_
    refine AW.region ?_
    refine OpsW.q rfl (o_call rfl Try.func11 rfl rfl (awake_con)) ?_
    refine OpsW.q rfl (q_assign (v := .bool _) rfl) ?_
    refine OpsW.nil ?_
    refine SeqP.go ?_
    refine AW.ret ?_
    refine RetP.mk1 (H' := H) (v1 := .bool _) rfl rfl  hSl0.le ?_
    exact ⟨rfl, rfl⟩
  try simp only [eb17, eb46, decide_eq_true_eq, decide_eq_false_iff_not, Bool.or_eq_true, Bool.and_eq_true, Bool.or_eq_false_iff, Bool.and_eq_false_imp, Bool.not_eq_true', Bool.not_eq_false', ne_eq, Decidable.not_not, Int.not_lt, Int.not_le, Bool.not_eq_true, Bool.not_eq_false] at h2
  have hi : i < m ∧ i < 60 := by omega
  have hop := hrops
  refine AW.skip ?_
  refine SeqP.go ?_
  refine AW.seq ?_
  refine AW.block ?_
  refine AW.seq ?_
  refine AW.seq ?_
  refine AW.region ?_
  refine OpsW.q rfl (q_move (v := .slice _ _ _) rfl) ?_
  refine OpsW.q rfl (q_move (v := .int _ _) rfl) ?_
  refine OpsW.q rfl (q_indexAddrR Try.underlying35 (by kernel_rfl) rfl rfl (by first | omega | decide) (by first | omega | decide) hrops) ?_
  refine OpsW.q rfl (q_fieldAddrR (sz := 0) Try.underlying40 rfl (by kernel_rfl) (hrops.1.resolve_left (by omega)) rfl) ?_
  refine OpsW.q rfl (q_loadRF (by kernel_rfl) rfl hrops (by first | omega | decide) rfl) ?_
  rw [Int.toNat_natCast]
  refine OpsW.q rfl (q_lenS Try.underlying9 rfl) ?_
  refine OpsW.q rfl (q_lss rfl rfl) ?_
  refine OpsW.qb rfl (q_move (v := .bool _) rfl) ?_
  intro b59 eb59
  refine OpsW.g rfl rfl rfl (fun hB => by simp only [Bool.and_eq_true, beq_iff_eq] at hB; obtain rfl := hB; exact (q_move (v := .slice _ _ _) rfl)) ?_
  refine OpsW.g rfl rfl rfl (fun hB => by simp only [Bool.and_eq_true, beq_iff_eq] at hB; obtain rfl := hB; exact (q_move (v := .int _ _) rfl)) ?_
  refine OpsW.g rfl rfl rfl (fun hB => by simp only [Bool.and_eq_true, beq_iff_eq] at hB; obtain rfl := hB; (try simp only [eb17, eb46, Bool.true_eq, Bool.false_eq, decide_eq_true_eq, Bool.and_eq_true, Bool.or_eq_true, Bool.or_eq_false_iff, Bool.not_eq_true', decide_eq_false_iff_not, Int.not_lt, Int.not_le] at eb59); exact (q_indexAddrR Try.underlying35 (by kernel_rfl) rfl rfl (by first | omega | decide) (by first | omega | decide) hrops)) ?_
  refine OpsW.g rfl rfl rfl (fun hB => by simp only [Bool.and_eq_true, beq_iff_eq] at hB; obtain rfl := hB; (try simp only [eb17, eb46, Bool.true_eq, Bool.false_eq, decide_eq_true_eq, Bool.and_eq_true, Bool.or_eq_true, Bool.or_eq_false_iff, Bool.not_eq_true', decide_eq_false_iff_not, Int.not_lt, Int.not_le] at eb59); exact (q_fieldAddrR (sz := 0) Try.underlying40 rfl (by kernel_rfl) (hrops.1.resolve_left (by omega)) rfl)) ?_
  refine OpsW.g rfl rfl rfl (fun hB => by simp only [Bool.and_eq_true, beq_iff_eq] at hB; obtain rfl := hB; (try simp only [eb17, eb46, Bool.true_eq, Bool.false_eq, decide_eq_true_eq, Bool.and_eq_true, Bool.or_eq_true, Bool.or_eq_false_iff, Bool.not_eq_true', decide_eq_false_iff_not, Int.not_lt, Int.not_le] at eb59); exact (q_loadRF (by kernel_rfl) rfl hrops (by first | omega | decide) rfl)) ?_
  rw [Int.toNat_natCast]
  refine OpsW.g rfl rfl rfl (fun hB => by simp only [Bool.and_eq_true, beq_iff_eq] at hB; obtain rfl := hB; exact (q_lenS Try.underlying9 rfl)) ?_
  refine OpsW.g rfl rfl rfl (fun hB => by simp only [Bool.and_eq_true, beq_iff_eq] at hB; obtain rfl := hB; exact (q_gtr rfl rfl)) ?_
  refine OpsW.q rfl (q_or2 rfl rfl rfl) ?_
  refine OpsW.nil ?_
  refine SeqP.go ?_
  refine AW.cond rfl (fun h3 => ?_) (fun h3 => ?_)
  ·
    try simp only [eb17, eb46, eb59, decide_eq_true_eq, decide_eq_false_iff_not, Bool.or_eq_true, Bool.and_eq_true, Bool.or_eq_false_iff, Bool.and_eq_false_imp, Bool.not_eq_true', Bool.not_eq_false', ne_eq, Decidable.not_not, Int.not_lt, Int.not_le, Bool.not_eq_true, Bool.not_eq_false] at h3
    refine AW.seq ?_
    refine AW.region ?_
    refine OpsW.q rfl (o_call rfl Try.func11 rfl rfl (awake_con)) ?_
    refine OpsW.q rfl (q_assign (v := .bool _) rfl) ?_
    refine OpsW.nil ?_
    refine SeqP.go ?_
    refine AW.ret ?_
    refine SeqP.ret ?_
    refine BlockP.ret ?_
    refine SeqP.ret ?_
    refine LoopP.ret ?_
    refine BlockP.ret ?_
    refine SeqP.ret ?_
    refine RetP.mk1 (H' := H) (v1 := .bool _) rfl rfl  hSl0.le ?_
    exact ⟨rfl, rfl⟩
  try simp only [eb17, eb46, eb59, decide_eq_true_eq, decide_eq_false_iff_not, Bool.or_eq_true, Bool.and_eq_true, Bool.or_eq_false_iff, Bool.and_eq_false_imp, Bool.not_eq_true', Bool.not_eq_false', ne_eq, Decidable.not_not, Int.not_lt, Int.not_le, Bool.not_eq_true, Bool.not_eq_false] at h3
  have hdl : 1 ≤ (o i).dat.length ∧ (o i).dat.length ≤ 8192 := by omega
  refine AW.skip ?_
  refine SeqP.go ?_
  refine AW.seq ?_
  refine AW.region ?_
  refine OpsW.q rfl (q_move (v := .pointer _) rfl) ?_
  refine OpsW.q rfl (o_call rfl Try.func8 rfl rfl (Marks_c hSl0 at0)) ?_
  refine OpsW.q rfl (q_move (v := .tuple _) rfl) ?_
  refine OpsW.q rfl (q_extract (v := .int _ _) rfl rfl) ?_
  refine OpsW.q rfl (q_extract (v := .int _ _) rfl rfl) ?_
  refine OpsW.q rfl (q_assign (v := .int _ _) rfl) ?_
  refine OpsW.q rfl (q_assign (v := .int _ _) rfl) ?_
  refine OpsW.nil ?_
  refine SeqP.go ?_
  refine AW.seq ?_
  refine AW.seq ?_
  refine AW.region ?_
  refine OpsW.q rfl (q_move (v := .pointer _) rfl) ?_
  refine OpsW.m rfl (o_call rfl Try.func10 rfl rfl (From_c hSl0 at0 (by have := hI.ok.1; have := hI.full; omega))) ?_
  rintro v75 H3 hR3
  have hS3 := hSl0.join hR3
  simp only [List.cons_append, List.nil_append] at hS3
  clear hR3 hSl0
  rw [from_all hI.ok (by have := hI.full; omega)] at hS3
  refine OpsW.q rfl (q_lenVec Try.underlying31 rfl (hS3.vec at0)) ?_
  refine OpsW.q rfl (q_move (v := .int _ _) rfl) ?_
  refine OpsW.q rfl (q_move (v := .int _ _) rfl) ?_
  refine OpsW.q rfl (q_subI rfl rfl (by omega)) ?_
  refine OpsW.q rfl (q_neq rfl rfl) ?_
  refine OpsW.qb rfl (q_move (v := .bool _) rfl) ?_
  intro b81 eb81
  refine OpsW.g rfl rfl rfl (fun hB => by simp only [Bool.and_eq_true, beq_iff_eq] at hB; obtain rfl := hB; exact (q_move (v := .int _ _) rfl)) ?_
  refine OpsW.g rfl rfl rfl (fun hB => by simp only [Bool.and_eq_true, beq_iff_eq] at hB; obtain rfl := hB; exact (q_move (v := .int _ _) rfl)) ?_
  refine OpsW.g rfl rfl rfl (fun hB => by simp only [Bool.and_eq_true, beq_iff_eq] at hB; obtain rfl := hB; (try simp only [eb17, eb46, eb59, Bool.true_eq, Bool.false_eq, decide_eq_true_eq, Bool.and_eq_true, Bool.or_eq_true, Bool.or_eq_false_iff, Bool.not_eq_true', decide_eq_false_iff_not, Int.not_lt, Int.not_le] at eb81); exact (q_subI rfl rfl (by omega))) ?_
  refine OpsW.g rfl rfl rfl (fun hB => by simp only [Bool.and_eq_true, beq_iff_eq] at hB; obtain rfl := hB; exact (q_move (v := .int _ _) rfl)) ?_
  refine OpsW.g rfl rfl rfl (fun hB => by simp only [Bool.and_eq_true, beq_iff_eq] at hB; obtain rfl := hB; exact (q_gtr rfl rfl)) ?_
  refine OpsW.q rfl (q_or2 rfl rfl rfl) ?_
  refine OpsW.nil ?_
  refine SeqP.go ?_
  refine AW.cond rfl (fun h4 => ?_) (fun h4 => ?_)
  ·
    exfalso
    try simp only [eb17, eb46, eb59, eb81, decide_eq_true_eq, decide_eq_false_iff_not, Bool.or_eq_true, Bool.and_eq_true, Bool.or_eq_false_iff, Bool.and_eq_false_imp, Bool.not_eq_true', Bool.not_eq_false', ne_eq, Decidable.not_not, Int.not_lt, Int.not_le, Bool.not_eq_true, Bool.not_eq_false] at h4
    have := hI.ok.1
    have := hI.full
    omega
  try simp only [eb17, eb46, eb59, eb81, decide_eq_true_eq, decide_eq_false_iff_not, Bool.or_eq_true, Bool.and_eq_true, Bool.or_eq_false_iff, Bool.and_eq_false_imp, Bool.not_eq_true', Bool.not_eq_false', ne_eq, Decidable.not_not, Int.not_lt, Int.not_le, Bool.not_eq_true, Bool.not_eq_false] at h4
  refine AW.skip ?_
  refine SeqP.go ?_
  refine AW.seq ?_
  refine AW.region ?_
  refine OpsW.q rfl (q_move (v := .slice _ _ _) rfl) ?_
  refine OpsW.q rfl (q_move (v := .int _ _) rfl) ?_
  refine OpsW.q rfl (q_indexAddrR Try.underlying35 (by kernel_rfl) rfl rfl (by first | omega | decide) (by first | omega | decide) hrops) ?_
  refine OpsW.q rfl (q_fieldAddrR (sz := 0) Try.underlying40 rfl (by kernel_rfl) (hrops.1.resolve_left (by omega)) rfl) ?_
  refine OpsW.q rfl (q_loadRF (by kernel_rfl) rfl hrops (by first | omega | decide) rfl) ?_
  rw [Int.toNat_natCast]
  refine OpsW.q rfl (q_eql rfl rfl) ?_
  refine OpsW.nil ?_
  refine SeqP.go ?_
  refine AW.cond rfl (fun h5 => ?_) (fun h5 => ?_)
  ·
    try simp only [eb17, eb46, eb59, eb81, decide_eq_true_eq, decide_eq_false_iff_not, Bool.or_eq_true, Bool.and_eq_true, Bool.or_eq_false_iff, Bool.and_eq_false_imp, Bool.not_eq_true', Bool.not_eq_false', ne_eq, Decidable.not_not, Int.not_lt, Int.not_le, Bool.not_eq_true, Bool.not_eq_false] at h5
    have hp := room_put (d := (o i).dat) hI (by omega) hdl
    obtain ⟨hp1, hI2⟩ := hp
    refine AW.seq ?_
    refine AW.region ?_
    refine OpsW.q rfl (q_move (v := .pointer _) rfl) ?_
    refine OpsW.q rfl (q_move (v := .slice _ _ _) rfl) ?_
    refine OpsW.q rfl (q_move (v := .int _ _) rfl) ?_
    refine OpsW.q rfl (q_indexAddrR Try.underlying35 (by kernel_rfl) rfl rfl (by first | omega | decide) (by first | omega | decide) hrops) ?_
    refine OpsW.q rfl (q_fieldAddrR (sz := 0) Try.underlying40 rfl (by kernel_rfl) (hrops.1.resolve_left (by omega)) rfl) ?_
    refine OpsW.q rfl (q_loadRF (by kernel_rfl) rfl hrops (by first | omega | decide) rfl) ?_
    rw [Int.toNat_natCast]
    obtain ⟨Hf4, le4, hA4, hB4⟩ := hS3.framed at1
    refine OpsW.m rfl (o_call rfl Try.func7 rfl rfl (Put_c hA4 hI.ok (hI.tk (by omega)) (by omega))) ?_
    rintro _ H4 ⟨rfl, hR4⟩
    have hS4 := hB4 _ _ hR4
    clear hR4 hB4 hA4
    clear hS3
    refine OpsW.q rfl (q_move (v := .tuple _) rfl) ?_
    refine OpsW.q rfl (q_extract (v := .int _ _) rfl rfl) ?_
    refine OpsW.q rfl (q_extract (v := .int _ _) rfl rfl) ?_
    refine OpsW.q rfl (q_assign (v := .int _ _) rfl) ?_
    refine OpsW.q rfl (q_assign (v := .int _ _) rfl) ?_
    refine OpsW.nil ?_
    refine SeqP.go ?_
    refine AW.seq ?_
    refine AW.region ?_
    refine OpsW.q rfl (q_move (v := .int _ _) rfl) ?_
    refine OpsW.q rfl (q_eql rfl rfl) ?_
    refine OpsW.q rfl (q_move (v := .int _ _) rfl) ?_
    refine OpsW.q rfl (q_move (v := .int _ _) rfl) ?_
    refine OpsW.q rfl (q_subI rfl rfl (by omega)) ?_
    refine OpsW.q rfl (q_move (v := .int _ _) rfl) ?_
    refine OpsW.q rfl (q_lss rfl rfl) ?_
    refine OpsW.q rfl (q_neqB Try.underlying4 rfl rfl) ?_
    refine OpsW.qb rfl (q_move (v := .bool _) rfl) ?_
    intro b112 eb112
    refine OpsW.g rfl rfl rfl (fun hB => by simp only [Bool.and_eq_true, beq_iff_eq] at hB; obtain rfl := hB; exact (q_move (v := .int _ _) rfl)) ?_
    refine OpsW.g rfl rfl rfl (fun hB => by simp only [Bool.and_eq_true, beq_iff_eq] at hB; obtain rfl := hB; exact (q_eql rfl rfl)) ?_
    refine OpsW.gb rfl rfl rfl (fun hB => by simp only [Bool.and_eq_true, beq_iff_eq] at hB; obtain rfl := hB; exact (q_move (v := .bool _) rfl)) ?_
    intro b115 eb115
    refine OpsW.gg rfl rfl rfl (fun hB => by simp only [Bool.and_eq_true, beq_iff_eq] at hB; obtain ⟨rfl, rfl⟩ := hB; exact (q_move (v := .int _ _) rfl)) ?_
    refine OpsW.gg rfl rfl rfl (fun hB => by simp only [Bool.and_eq_true, beq_iff_eq] at hB; obtain ⟨rfl, rfl⟩ := hB; exact (q_move (v := .int _ _) rfl)) ?_
    refine OpsW.gg rfl rfl rfl (fun hB => by simp only [Bool.and_eq_true, beq_iff_eq] at hB; obtain ⟨rfl, rfl⟩ := hB; (try simp only [eb17, eb46, eb59, eb81, Bool.true_eq, Bool.false_eq, decide_eq_true_eq, Bool.and_eq_true, Bool.or_eq_true, Bool.or_eq_false_iff, Bool.not_eq_true', decide_eq_false_iff_not, Int.not_lt, Int.not_le] at eb112); (try simp only [eb17, eb46, eb59, eb81, Bool.true_eq, Bool.false_eq, decide_eq_true_eq, Bool.and_eq_true, Bool.or_eq_true, Bool.or_eq_false_iff, Bool.not_eq_true', decide_eq_false_iff_not, Int.not_lt, Int.not_le] at eb115); exact (q_addI rfl rfl (by omega))) ?_
    refine OpsW.gg rfl rfl rfl (fun hB => by simp only [Bool.and_eq_true, beq_iff_eq] at hB; obtain ⟨rfl, rfl⟩ := hB; exact (q_neq rfl rfl)) ?_
    refine OpsW.g rfl rfl rfl (fun hB => by simp only [Bool.and_eq_true, beq_iff_eq] at hB; obtain rfl := hB; exact (q_and2 rfl rfl rfl)) ?_
    refine OpsW.q rfl (q_or2 rfl rfl rfl) ?_
    refine OpsW.qb rfl (q_move (v := .bool _) rfl) ?_
    intro b122 eb122
    refine OpsW.g rfl rfl rfl (fun hB => by simp only [Bool.and_eq_true, beq_iff_eq] at hB; obtain rfl := hB; exact (q_move (v := .int _ _) rfl)) ?_
    refine OpsW.g rfl rfl rfl (fun hB => by simp only [Bool.and_eq_true, beq_iff_eq] at hB; obtain rfl := hB; exact (q_neq rfl rfl)) ?_
    refine OpsW.gb rfl rfl rfl (fun hB => by simp only [Bool.and_eq_true, beq_iff_eq] at hB; obtain rfl := hB; exact (q_move (v := .bool _) rfl)) ?_
    intro b125 eb125
    refine OpsW.gg rfl rfl rfl (fun hB => by simp only [Bool.and_eq_true, beq_iff_eq] at hB; obtain ⟨rfl, rfl⟩ := hB; exact (q_move (v := .int _ _) rfl)) ?_
    refine OpsW.gg rfl rfl rfl (fun hB => by simp only [Bool.and_eq_true, beq_iff_eq] at hB; obtain ⟨rfl, rfl⟩ := hB; exact (q_neq rfl rfl)) ?_
    refine OpsW.g rfl rfl rfl (fun hB => by simp only [Bool.and_eq_true, beq_iff_eq] at hB; obtain rfl := hB; exact (q_and2 rfl rfl rfl)) ?_
    refine OpsW.q rfl (q_or2 rfl rfl rfl) ?_
    refine OpsW.nil ?_
    refine SeqP.go ?_
    refine AW.cond rfl (fun h6 => ?_) (fun h6 => ?_)
    ·
      exfalso
      try simp only [eb17, eb46, eb59, eb81, eb112, eb115, eb122, eb125, decide_eq_true_eq, decide_eq_false_iff_not, Bool.or_eq_true, Bool.and_eq_true, Bool.or_eq_false_iff, Bool.and_eq_false_imp, Bool.not_eq_true', Bool.not_eq_false', ne_eq, Decidable.not_not, Int.not_lt, Int.not_le, Bool.not_eq_true, Bool.not_eq_false] at h6
      simp_all <;> omega
    try simp only [eb17, eb46, eb59, eb81, eb112, eb115, eb122, eb125, decide_eq_true_eq, decide_eq_false_iff_not, Bool.or_eq_true, Bool.and_eq_true, Bool.or_eq_false_iff, Bool.and_eq_false_imp, Bool.not_eq_true', Bool.not_eq_false', ne_eq, Decidable.not_not, Int.not_lt, Int.not_le, Bool.not_eq_true, Bool.not_eq_false] at h6
    refine AW.skip ?_
    refine BlockP.go ?_
    refine SeqP.go ?_
    refine AW.region ?_
    refine OpsW.q rfl (q_move (v := .int _ _) rfl) ?_
    refine OpsW.q rfl (q_addI rfl rfl (by omega)) ?_
    refine OpsW.q rfl (q_assign (v := .int _ _) rfl) ?_
    refine OpsW.nil ?_
    replace hS4 := hS4.del del0
    exact LoopP.go _ (by omega) ⟨i + 1, _, _, _, rfl, ⟨hI2, by omega⟩, Slots.eq ⟨(by first | rfl | exact i64_int (by omega) (by omega) (by omega) | assumption), (by first | rfl | exact i64_int (by omega) (by omega) (by omega) | assumption), (by first | rfl | exact i64_int (by omega) (by omega) (by omega) | assumption), (by first | rfl | exact i64_int (by omega) (by omega) (by omega) | assumption),  trivial⟩, hS4⟩
  try simp only [eb17, eb46, eb59, eb81, decide_eq_true_eq, decide_eq_false_iff_not, Bool.or_eq_true, Bool.and_eq_true, Bool.or_eq_false_iff, Bool.and_eq_false_imp, Bool.not_eq_true', Bool.not_eq_false', ne_eq, Decidable.not_not, Int.not_lt, Int.not_le, Bool.not_eq_true, Bool.not_eq_false] at h5
  obtain ⟨hp1, hI2⟩ := room_ack (n := (o i).n) hI (by omega)
  refine AW.seq ?_
  refine AW.region ?_
  refine OpsW.q rfl (q_move (v := .pointer _) rfl) ?_
  refine OpsW.q rfl (q_move (v := .slice _ _ _) rfl) ?_
  refine OpsW.q rfl (q_move (v := .int _ _) rfl) ?_
  refine OpsW.q rfl (q_indexAddrR Try.underlying35 (by kernel_rfl) rfl rfl (by first | omega | decide) (by first | omega | decide) hrops) ?_
  refine OpsW.q rfl (q_fieldAddrR (sz := 0) Try.underlying40 rfl (by kernel_rfl) (hrops.1.resolve_left (by omega)) rfl) ?_
  refine OpsW.q rfl (q_loadRF (by kernel_rfl) rfl hrops (by first | omega | decide) rfl) ?_
  rw [Int.toNat_natCast]
  obtain ⟨Hf5, le5, hA5, hB5⟩ := hS3.framed at1
  refine OpsW.m rfl (o_call rfl Try.func9 rfl rfl (Ack_c hA5 hI.ok (hI.tk (by omega)))) ?_
  rintro _ H5 ⟨rfl, hR5⟩
  have hS5 := hB5 _ _ hR5
  clear hR5 hB5 hA5
  clear hS3
  refine OpsW.q rfl (q_assign (v := .int _ _) rfl) ?_
  refine OpsW.nil ?_
  refine SeqP.go ?_
  refine AW.seq ?_
  refine AW.region ?_
  refine OpsW.q rfl (q_move (v := .int _ _) rfl) ?_
  refine OpsW.q rfl (q_eql rfl rfl) ?_
  refine OpsW.q rfl (q_move (v := .slice _ _ _) rfl) ?_
  refine OpsW.q rfl (q_move (v := .int _ _) rfl) ?_
  refine OpsW.q rfl (q_indexAddrR Try.underlying35 (by kernel_rfl) rfl rfl (by first | omega | decide) (by first | omega | decide) hrops) ?_
  refine OpsW.q rfl (q_fieldAddrR (sz := 0) Try.underlying40 rfl (by kernel_rfl) (hrops.1.resolve_left (by omega)) rfl) ?_
  refine OpsW.q rfl (q_loadRF (by kernel_rfl) rfl hrops (by first | omega | decide) rfl) ?_
  rw [Int.toNat_natCast]
  refine OpsW.q rfl (q_move (v := .int _ _) rfl) ?_
  refine OpsW.q rfl (q_leq rfl rfl) ?_
  refine OpsW.q rfl (q_neqB Try.underlying4 rfl rfl) ?_
  refine OpsW.qb rfl (q_move (v := .bool _) rfl) ?_
  intro b147 eb147
  refine OpsW.g rfl rfl rfl (fun hB => by simp only [Bool.and_eq_true, beq_iff_eq] at hB; obtain rfl := hB; exact (q_move (v := .int _ _) rfl)) ?_
  refine OpsW.g rfl rfl rfl (fun hB => by simp only [Bool.and_eq_true, beq_iff_eq] at hB; obtain rfl := hB; exact (q_neq rfl rfl)) ?_
  refine OpsW.gb rfl rfl rfl (fun hB => by simp only [Bool.and_eq_true, beq_iff_eq] at hB; obtain rfl := hB; exact (q_move (v := .bool _) rfl)) ?_
  intro b150 eb150
  refine OpsW.gg rfl rfl rfl (fun hB => by simp only [Bool.and_eq_true, beq_iff_eq] at hB; obtain ⟨rfl, rfl⟩ := hB; exact (q_move (v := .int _ _) rfl)) ?_
  refine OpsW.gg rfl rfl rfl (fun hB => by simp only [Bool.and_eq_true, beq_iff_eq] at hB; obtain ⟨rfl, rfl⟩ := hB; exact (q_neq rfl rfl)) ?_
  refine OpsW.g rfl rfl rfl (fun hB => by simp only [Bool.and_eq_true, beq_iff_eq] at hB; obtain rfl := hB; exact (q_and2 rfl rfl rfl)) ?_
  refine OpsW.q rfl (q_or2 rfl rfl rfl) ?_
  refine OpsW.nil ?_
  refine SeqP.go ?_
  refine AW.cond rfl (fun h7 => ?_) (fun h7 => ?_)
  ·
    exfalso
    try simp only [eb17, eb46, eb59, eb81, eb147, eb150, decide_eq_true_eq, decide_eq_false_iff_not, Bool.or_eq_true, Bool.and_eq_true, Bool.or_eq_false_iff, Bool.and_eq_false_imp, Bool.not_eq_true', Bool.not_eq_false', ne_eq, Decidable.not_not, Int.not_lt, Int.not_le, Bool.not_eq_true, Bool.not_eq_false] at h7
    simp_all <;> omega
  try simp only [eb17, eb46, eb59, eb81, eb147, eb150, decide_eq_true_eq, decide_eq_false_iff_not, Bool.or_eq_true, Bool.and_eq_true, Bool.or_eq_false_iff, Bool.and_eq_false_imp, Bool.not_eq_true', Bool.not_eq_false', ne_eq, Decidable.not_not, Int.not_lt, Int.not_le, Bool.not_eq_true, Bool.not_eq_false] at h7
  refine AW.skip ?_
  refine BlockP.go ?_
  refine SeqP.go ?_
  refine AW.region ?_
  refine OpsW.q rfl (q_move (v := .int _ _) rfl) ?_
  refine OpsW.q rfl (q_addI rfl rfl (by omega)) ?_
  refine OpsW.q rfl (q_assign (v := .int _ _) rfl) ?_
  refine OpsW.nil ?_
  replace hS5 := hS5.del del0
  exact LoopP.go _ (by omega) ⟨i + 1, _, _, _, rfl, ⟨hI2, by omega⟩, Slots.eq ⟨(by first | rfl | exact i64_int (by omega) (by omega) (by omega) | assumption), (by first | rfl | exact i64_int (by omega) (by omega) (by omega) | assumption), (by first | rfl | exact i64_int (by omega) (by omega) (by omega) | assumption), (by first | rfl | exact i64_int (by omega) (by omega) (by omega) | assumption),  trivial⟩, hS5⟩
end
end Go.Proofs.Ytpaombkodoofgaa

