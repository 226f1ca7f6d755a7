/-
  The proof's texts, joined, without what the statements do not reach: part 7 of 7. No condition.
-/
import Derived.Test.YtfiojlmccflplaaRows
import Derived.JoinedCond
import Derived.WalkKit
import Derived.KernelRfl
import Derived.Lib.ConvBytes
import Derived.WalkSpells
import Derived.WalkLawsBesides
import Derived.ProofKit
import Derived.ChangeMaps5
import Derived.ChangeSlices
import Derived.Deep.Strs
import Derived.DataElems
import Derived.OpenShut
import Derived.Test.YtfiojlmccflplaaProg
import Derived.MapKept
import Derived.Laws.StructEq
import Derived.Test.YtfiojlmccflplaaKf
section
namespace Go.Proofs.Ytfiojlmccflplaa
open Go Go.RowKit D
set_option linter.unusedVariables false
set_option linter.unusedSimpArgs false
set_option maxRecDepth 100000
set_option maxHeartbeats 2000000
section
variable {w0 : World} {H : Hp} {H0 : Hp}
theorem New_e {n : Int} (h : 1 ≤ n ∧ n ≤ 16777216) : Con Try.prog w0 14 #[.int .i64 n] H (fun v H' => ∃ b, v = .tuple #[PT b, .int .i64 0] ∧ Sep H [tapeC b ⟨n, [], [], 0, false⟩] H') :=
  (New_s n).mono fun _ _ h1 => h1.elim (fun h2 => absurd h2.1 (by omega)) (fun h2 => h2.2)
section
variable {L : List Chunk} {F : Chunk → List Chunk} {b tb : Nat} {x x' : StF} {t t' : TapeS} {st : StS} {who d : List UInt8} {n e : Int}
theorem Add_c (h : Sep H0 [stC b tb x t] H) (hok : StOk x.st.L) (htk : TapeOk t) (hl : x.st.L.length ≤ 1000000) (hh : x.st.h.length = 32) : Con Try.prog w0 17 #[PT b, S who, .agg #[.int .i64 n, S d]] H (fun v H' => v = .int .i64 (addS t x who n d).1 ∧ Sep H0 [stC b tb (addS t x who n d).2.1 (addS t x who n d).2.2] H') := by
  obtain ⟨mb, h1⟩ := sto_open h
  exact (Add_w h1 hok htk hl hh).mono fun _ _ ⟨h2, h3⟩ => ⟨h2, sto_close h3⟩
theorem Add_e (h : Sep H0 [stC b tb x t] H) (hok : StOk x.st.L) (htk : TapeOk t) (hl : x.st.L.length ≤ 1000000) (hh : x.st.h.length = 32) (he : addS t x who n d = (e, x', t')) : Con Try.prog w0 17 #[PT b, S who, .agg #[.int .i64 n, S d]] H (fun v H' => v = .int .i64 e ∧ Sep H0 [stC b tb x' t'] H') := by
  have := Add_c (w0 := w0) (who := who) (n := n) (d := d) h hok htk hl hh; rw [he] at this; exact this
theorem Open_e (h : Sep H0 [tapeC tb t] H) (htk : TapeOk t) (he : openS t = (0, t')) (hs : (scanS st0 (t.f ++ t.l)).2 = st) : Con Try.prog w0 15 #[PT tb] H (fun v H' => ∃ b, v = .tuple #[PT b, .int .i64 0] ∧ Sep H0 [stC b tb ⟨st, false⟩ t'] H') :=
  (OpenS_w h htk).mono fun _ _ h1 => h1.elim (fun h2 => absurd (by rw [he]) h2.1) (fun ⟨_, b, h2, h3⟩ => ⟨b, h2, by rw [he, hs] at h3; exact h3⟩)
theorem Of_c (h : Sep H0 L H) (hA : At L (stC b tb x t) F) (hl : x.st.L.length ≤ 1000000000) : Con Try.prog w0 19 #[PT b, S who] H (fun v H' => Sep H [recV v (ofP x.st.L who)] H') := by
  obtain ⟨mb, vs, h1, h2, h3⟩ := sto_look h hA who
  exact Of_con h1 h2 h3 hl
theorem Mark_c (h : Sep H0 L H) (hA : At L (stC b tb x t) F) : Con Try.prog w0 18 #[PT b, S who] H (fun v H' => v = .int .i64 (mkP x.st.L who) ∧ H' = H) := by
  obtain ⟨mb, vs, h1, h2, h3⟩ := sto_look h hA who
  exact Mark_con h1 h2 h3
theorem Head_c (h : Sep H0 L H) (hA : At L (stC b tb x t) F) : Con Try.prog w0 20 #[PT b] H (fun v H' => v = S x.st.h ∧ H' = H) := by
  obtain ⟨mb, vs, h1, h2, h3⟩ := sto_look h hA []
  exact Head_con h1
end
/-- One of some senders. -/
def sndB (n : Int) : List UInt8 := toB [IntKind.u8.wrap n] ++ List.replicate 31 0
theorem sndB_len (n : Int) : (sndB n).length = 32 := by simp [sndB, toB]
theorem aw_bad {n seq : Int} {d : List UInt8} (h1 : 1 ≤ seq) (h2 : d ≠ []) (h3 : d.length ≤ 8192) : ¬ addBad (sndB n) seq d := by
  unfold addBad
  rintro (h | h | h | h)
  · exact h (sndB_len n)
  · omega
  · exact h2 h
  · omega
theorem mkP_nil (who : List UInt8) : mkP [] who = 0 := by unfold mkP; rw [ofP_nil]; rfl
theorem stok_new {n : Int} (h : 1 ≤ n ∧ n ≤ 16777216) : TapeOk ⟨n, [], [], 0, false⟩ := ⟨h.2, by show ((0 + 0 : Nat) : Int) ≤ n; omega, by show (0 : Int) ≤ 0; omega, by show (0 : Int) ≤ _; omega⟩
theorem no_goes (s : StS) : ¬ goesS s [] := fun g => by
  obtain ⟨h1, _⟩ := firstS_ok g.1
  exact h1.1 (by decide)
theorem openS_new {n : Int} (h : 1 ≤ n ∧ n ≤ 16777216) : openS ⟨n, [], [], 0, false⟩ = (0, ⟨n, [], [], 0, false⟩) ∧ (scanS st0 ((⟨n, [], [], 0, false⟩ : TapeS).f ++ (⟨n, [], [], 0, false⟩ : TapeS).l)).2 = st0 := by
  have e := scanS_end (no_goes st0)
  refine ⟨?_, by show (scanS st0 ([] ++ [])).2 = st0; rw [List.append_nil, e]⟩
  rw [openS_go rfl, openSC_sync (by show ¬ (scanS st0 ([] ++ [])).1 < _; rw [List.append_nil, e]; decide), syncP_ok rfl (show ¬ (0 : Int) = 1 by decide)]
  rfl
theorem ver_e1 (h : List UInt8) (e : h = z32) : verS [] z32 h = (0, 0) := verS_here e.symm
theorem ver_e2 : verS [120] z32 [] = (0, 43) := verS_chain (by decide) (by decide) (by rw [firstS_no (fun h => h.1 (by decide))])
theorem aw_add1 {t : TapeS} {n : Int} {d : List UInt8} (hd : d = [120]) : addS t ⟨st0, false⟩ (sndB n) 2 d = (44, ⟨st0, false⟩, t) := by
  subst hd; exact addS_seq rfl (aw_bad (by decide) (by decide) (by decide)) (by rw [show (⟨st0, false⟩ : StF).st.L = [] from rfl, mkP_nil]; decide)
theorem aw_add2 {n : Int} : (addS ⟨1000, [], [], 0, false⟩ ⟨st0, false⟩ (sndB n) 1 [120]).1 = 0 := by
  rw [addS_go rfl (aw_bad (by decide) (by decide) (by decide)) (by rw [show (⟨st0, false⟩ : StF).st.L = [] from rfl, mkP_nil]; decide)]
  have hl : (frS z32 (bodyS (sndB n) 1 [120])).length = 73 := by rw [frS_len, bodyS_len, sndB_len]; rfl
  have ha : appendP ⟨1000, [], [], 0, false⟩ (frS z32 (bodyS (sndB n) 1 [120])) = (0, ⟨1000, [], [] ++ frS z32 (bodyS (sndB n) 1 [120]), 0, false⟩) := by
    rw [appendP_ok rfl (by show ((0 + 0 : Nat) : Int) + _ ≤ 1000; rw [hl]; decide), actP_go (show ¬ (0 : Int) = 1 by decide)]; rfl
  rw [layS_ok (x := ⟨st0, false⟩) (by show (appendP _ (frS z32 _)).1 = 0; rw [ha]) (by show (syncP (appendP _ (frS z32 _)).2).1 = 0; rw [ha, syncP_ok rfl (show ¬ (0 : Int) = 1 by decide)])]
theorem sender_con (n : Int) : Con Try.prog w0 16 #[.int .i64 n] H (fun v H' => v = S (sndB n) ∧ H' = H) := by
  have hS0 : Sep H [] H := Sep.refl
  refine Con.intro Try.func16 rfl rfl ?_
  refine AW.seq ?_
  refine AW.region ?_
  refine OpsW.q rfl (q_assign (v := S _) rfl) ?_
  refine OpsW.nil ?_
  refine SeqP.go ?_
  refine AW.seq ?_
  refine AW.steps rfl 8 rfl ?_
  refine AnyW.first 0 rfl (by kernel_rfl) (by kernel_rfl) (by kernel_rfl) rfl (dst_lt rfl) (v_move (v := .int _ _) rfl) ?_
  refine AnyW.two 1 4 rfl rfl (by kernel_rfl) rfl rfl (dst_lt rfl) (dst_lt rfl) (q_convInt rfl Try.underlying5 rfl) (s_makeSliceN (kk := .u8) (by_ := 1) hS0 Try.underlying72 (by kernel_rfl) (by kernel_rfl) (by kernel_rfl) rfl rfl (by omega) (by omega) (by omega) (by omega) (by unfold maxLen; omega)) ?_ ?_
  ·
    rintro _ _ ⟨rfl, rfl⟩
    refine AnyW.two 2 4 rfl rfl (by kernel_rfl) rfl rfl (dst_lt rfl) (dst_lt rfl) (s_buildSlice (z := .int .u8 0) (vs := nums .u8 [_]) hS0 Try.underlying72 (by kernel_rfl) (by kernel_rfl) rfl (by rfl) (by rfl) (by decide) rfl (nums_one _ _) rfl) (s_makeSliceN (kk := .u8) (by_ := 1) hS0 Try.underlying72 (by kernel_rfl) (by kernel_rfl) (by kernel_rfl) rfl rfl (by omega) (by omega) (by omega) (by omega) (by unfold maxLen; omega)) ?_ ?_
    ·
      rintro v5 H1 hS1
      clear hS0
      refine AnyW.two 3 4 rfl rfl (by kernel_rfl) rfl rfl (dst_lt rfl) (dst_lt rfl) (q_stringVec (hS1.vec at0) Try.underlying72 Try.underlying5 Try.underlying9 rfl) (s_makeSliceN (kk := .u8) (by_ := 1) hS1 Try.underlying72 (by kernel_rfl) (by kernel_rfl) (by kernel_rfl) rfl rfl (by omega) (by omega) (by omega) (by omega) (by unfold maxLen; omega)) ?_ ?_
      ·
        rintro _ _ ⟨rfl, rfl⟩
        refine AnyW.only 4 rfl (by kernel_rfl) rfl (dst_lt rfl) (s_makeSliceN (kk := .u8) (by_ := 1) hS1 Try.underlying72 (by kernel_rfl) (by kernel_rfl) (by kernel_rfl) rfl rfl (by omega) (by omega) (by omega) (by omega) (by unfold maxLen; omega)) ?_
        rintro v7 H2 hS2
        clear hS1
        refine AnyW.onlyQ 5 rfl (by kernel_rfl) rfl (dst_lt rfl) (q_stringVec (hS2.vec at0) Try.underlying72 Try.underlying5 Try.underlying9 rfl) ?_
        refine AnyW.onlyQ 6 rfl (by kernel_rfl) rfl (dst_lt rfl) (q_cat rfl rfl (by simp only [nums_length, List.length_set, List.length_replicate, List.length_take, List.length_drop, List.length_append, List.length_cons, List.length_nil, ofB_length, toB_length]; omega)) ?_
        refine AnyW.onlyQ 7 rfl (by kernel_rfl) rfl (dst_lt rfl) (q_assign (v := S _) rfl) ?_
        refine AnyW.done (by kernel_rfl) ?_
        refine SeqP.go ?_
        refine AW.ret ?_
        refine RetP.mk1 (H' := _) (v1 := S _) rfl rfl  hS2.le ?_
        exact ⟨rfl, rfl⟩
      ·
        rintro v7 H3 hS3
        clear hS1
        refine AnyW.two 3 5 rfl rfl (by kernel_rfl) rfl rfl (dst_lt rfl) (dst_lt rfl) (q_stringVec (hS3.vec at1) Try.underlying72 Try.underlying5 Try.underlying9 rfl) (q_stringVec (hS3.vec at0) Try.underlying72 Try.underlying5 Try.underlying9 rfl) ?_ ?_
        ·
          rintro _ _ ⟨rfl, rfl⟩
          refine AnyW.onlyQ 5 rfl (by kernel_rfl) rfl (dst_lt rfl) (q_stringVec (hS3.vec at0) Try.underlying72 Try.underlying5 Try.underlying9 rfl) ?_
          refine AnyW.onlyQ 6 rfl (by kernel_rfl) rfl (dst_lt rfl) (q_cat rfl rfl (by simp only [nums_length, List.length_set, List.length_replicate, List.length_take, List.length_drop, List.length_append, List.length_cons, List.length_nil, ofB_length, toB_length]; omega)) ?_
          refine AnyW.onlyQ 7 rfl (by kernel_rfl) rfl (dst_lt rfl) (q_assign (v := S _) rfl) ?_
          refine AnyW.done (by kernel_rfl) ?_
          refine SeqP.go ?_
          refine AW.ret ?_
          refine RetP.mk1 (H' := _) (v1 := S _) rfl rfl  hS3.le ?_
          exact ⟨rfl, rfl⟩
        ·
          rintro _ _ ⟨rfl, rfl⟩
          refine AnyW.onlyQ 3 rfl (by kernel_rfl) rfl (dst_lt rfl) (q_stringVec (hS3.vec at1) Try.underlying72 Try.underlying5 Try.underlying9 rfl) ?_
          refine AnyW.onlyQ 6 rfl (by kernel_rfl) rfl (dst_lt rfl) (q_cat rfl rfl (by simp only [nums_length, List.length_set, List.length_replicate, List.length_take, List.length_drop, List.length_append, List.length_cons, List.length_nil, ofB_length, toB_length]; omega)) ?_
          refine AnyW.onlyQ 7 rfl (by kernel_rfl) rfl (dst_lt rfl) (q_assign (v := S _) rfl) ?_
          refine AnyW.done (by kernel_rfl) ?_
          refine SeqP.go ?_
          refine AW.ret ?_
          refine RetP.mk1 (H' := _) (v1 := S _) rfl rfl  hS3.le ?_
          exact ⟨rfl, rfl⟩
    ·
      rintro v7 H4 hS4
      clear hS0
      refine AnyW.two 2 5 rfl rfl (by kernel_rfl) rfl rfl (dst_lt rfl) (dst_lt rfl) (s_buildSlice (z := .int .u8 0) (vs := nums .u8 [_]) hS4 Try.underlying72 (by kernel_rfl) (by kernel_rfl) rfl (by rfl) (by rfl) (by decide) rfl (nums_one _ _) rfl) (q_stringVec (hS4.vec at0) Try.underlying72 Try.underlying5 Try.underlying9 rfl) ?_ ?_
      ·
        rintro v5 H5 hS5
        clear hS4
        refine AnyW.two 3 5 rfl rfl (by kernel_rfl) rfl rfl (dst_lt rfl) (dst_lt rfl) (q_stringVec (hS5.vec at0) Try.underlying72 Try.underlying5 Try.underlying9 rfl) (q_stringVec (hS5.vec at1) Try.underlying72 Try.underlying5 Try.underlying9 rfl) ?_ ?_
        ·
          rintro _ _ ⟨rfl, rfl⟩
          refine AnyW.onlyQ 5 rfl (by kernel_rfl) rfl (dst_lt rfl) (q_stringVec (hS5.vec at1) Try.underlying72 Try.underlying5 Try.underlying9 rfl) ?_
          refine AnyW.onlyQ 6 rfl (by kernel_rfl) rfl (dst_lt rfl) (q_cat rfl rfl (by simp only [nums_length, List.length_set, List.length_replicate, List.length_take, List.length_drop, List.length_append, List.length_cons, List.length_nil, ofB_length, toB_length]; omega)) ?_
          refine AnyW.onlyQ 7 rfl (by kernel_rfl) rfl (dst_lt rfl) (q_assign (v := S _) rfl) ?_
          refine AnyW.done (by kernel_rfl) ?_
          refine SeqP.go ?_
          refine AW.ret ?_
          refine RetP.mk1 (H' := _) (v1 := S _) rfl rfl  hS5.le ?_
          exact ⟨rfl, rfl⟩
        ·
          rintro _ _ ⟨rfl, rfl⟩
          refine AnyW.onlyQ 3 rfl (by kernel_rfl) rfl (dst_lt rfl) (q_stringVec (hS5.vec at0) Try.underlying72 Try.underlying5 Try.underlying9 rfl) ?_
          refine AnyW.onlyQ 6 rfl (by kernel_rfl) rfl (dst_lt rfl) (q_cat rfl rfl (by simp only [nums_length, List.length_set, List.length_replicate, List.length_take, List.length_drop, List.length_append, List.length_cons, List.length_nil, ofB_length, toB_length]; omega)) ?_
          refine AnyW.onlyQ 7 rfl (by kernel_rfl) rfl (dst_lt rfl) (q_assign (v := S _) rfl) ?_
          refine AnyW.done (by kernel_rfl) ?_
          refine SeqP.go ?_
          refine AW.ret ?_
          refine RetP.mk1 (H' := _) (v1 := S _) rfl rfl  hS5.le ?_
          exact ⟨rfl, rfl⟩
      ·
        rintro _ _ ⟨rfl, rfl⟩
        refine AnyW.only 2 rfl (by kernel_rfl) rfl (dst_lt rfl) (s_buildSlice (z := .int .u8 0) (vs := nums .u8 [_]) hS4 Try.underlying72 (by kernel_rfl) (by kernel_rfl) rfl (by rfl) (by rfl) (by decide) rfl (nums_one _ _) rfl) ?_
        rintro v5 H6 hS6
        clear hS4
        refine AnyW.onlyQ 3 rfl (by kernel_rfl) rfl (dst_lt rfl) (q_stringVec (hS6.vec at0) Try.underlying72 Try.underlying5 Try.underlying9 rfl) ?_
        refine AnyW.onlyQ 6 rfl (by kernel_rfl) rfl (dst_lt rfl) (q_cat rfl rfl (by simp only [nums_length, List.length_set, List.length_replicate, List.length_take, List.length_drop, List.length_append, List.length_cons, List.length_nil, ofB_length, toB_length]; omega)) ?_
        refine AnyW.onlyQ 7 rfl (by kernel_rfl) rfl (dst_lt rfl) (q_assign (v := S _) rfl) ?_
        refine AnyW.done (by kernel_rfl) ?_
        refine SeqP.go ?_
        refine AW.ret ?_
        refine RetP.mk1 (H' := _) (v1 := S _) rfl rfl  hS6.le ?_
        exact ⟨rfl, rfl⟩
  ·
    rintro v7 H7 hS7
    clear hS0
    refine AnyW.two 1 5 rfl rfl (by kernel_rfl) rfl rfl (dst_lt rfl) (dst_lt rfl) (q_convInt rfl Try.underlying5 rfl) (q_stringVec (hS7.vec at0) Try.underlying72 Try.underlying5 Try.underlying9 rfl) ?_ ?_
    ·
      rintro _ _ ⟨rfl, rfl⟩
      refine AnyW.two 2 5 rfl rfl (by kernel_rfl) rfl rfl (dst_lt rfl) (dst_lt rfl) (s_buildSlice (z := .int .u8 0) (vs := nums .u8 [_]) hS7 Try.underlying72 (by kernel_rfl) (by kernel_rfl) rfl (by rfl) (by rfl) (by decide) rfl (nums_one _ _) rfl) (q_stringVec (hS7.vec at0) Try.underlying72 Try.underlying5 Try.underlying9 rfl) ?_ ?_
      ·
        rintro v5 H8 hS8
        clear hS7
        refine AnyW.two 3 5 rfl rfl (by kernel_rfl) rfl rfl (dst_lt rfl) (dst_lt rfl) (q_stringVec (hS8.vec at0) Try.underlying72 Try.underlying5 Try.underlying9 rfl) (q_stringVec (hS8.vec at1) Try.underlying72 Try.underlying5 Try.underlying9 rfl) ?_ ?_
        ·
          rintro _ _ ⟨rfl, rfl⟩
          refine AnyW.onlyQ 5 rfl (by kernel_rfl) rfl (dst_lt rfl) (q_stringVec (hS8.vec at1) Try.underlying72 Try.underlying5 Try.underlying9 rfl) ?_
          refine AnyW.onlyQ 6 rfl (by kernel_rfl) rfl (dst_lt rfl) (q_cat rfl rfl (by simp only [nums_length, List.length_set, List.length_replicate, List.length_take, List.length_drop, List.length_append, List.length_cons, List.length_nil, ofB_length, toB_length]; omega)) ?_
          refine AnyW.onlyQ 7 rfl (by kernel_rfl) rfl (dst_lt rfl) (q_assign (v := S _) rfl) ?_
          refine AnyW.done (by kernel_rfl) ?_
          refine SeqP.go ?_
          refine AW.ret ?_
          refine RetP.mk1 (H' := _) (v1 := S _) rfl rfl  hS8.le ?_
          exact ⟨rfl, rfl⟩
        ·
          rintro _ _ ⟨rfl, rfl⟩
          refine AnyW.onlyQ 3 rfl (by kernel_rfl) rfl (dst_lt rfl) (q_stringVec (hS8.vec at0) Try.underlying72 Try.underlying5 Try.underlying9 rfl) ?_
          refine AnyW.onlyQ 6 rfl (by kernel_rfl) rfl (dst_lt rfl) (q_cat rfl rfl (by simp only [nums_length, List.length_set, List.length_replicate, List.length_take, List.length_drop, List.length_append, List.length_cons, List.length_nil, ofB_length, toB_length]; omega)) ?_
          refine AnyW.onlyQ 7 rfl (by kernel_rfl) rfl (dst_lt rfl) (q_assign (v := S _) rfl) ?_
          refine AnyW.done (by kernel_rfl) ?_
          refine SeqP.go ?_
          refine AW.ret ?_
          refine RetP.mk1 (H' := _) (v1 := S _) rfl rfl  hS8.le ?_
          exact ⟨rfl, rfl⟩
      ·
        rintro _ _ ⟨rfl, rfl⟩
        refine AnyW.only 2 rfl (by kernel_rfl) rfl (dst_lt rfl) (s_buildSlice (z := .int .u8 0) (vs := nums .u8 [_]) hS7 Try.underlying72 (by kernel_rfl) (by kernel_rfl) rfl (by rfl) (by rfl) (by decide) rfl (nums_one _ _) rfl) ?_
        rintro v5 H9 hS9
        clear hS7
        refine AnyW.onlyQ 3 rfl (by kernel_rfl) rfl (dst_lt rfl) (q_stringVec (hS9.vec at0) Try.underlying72 Try.underlying5 Try.underlying9 rfl) ?_
        refine AnyW.onlyQ 6 rfl (by kernel_rfl) rfl (dst_lt rfl) (q_cat rfl rfl (by simp only [nums_length, List.length_set, List.length_replicate, List.length_take, List.length_drop, List.length_append, List.length_cons, List.length_nil, ofB_length, toB_length]; omega)) ?_
        refine AnyW.onlyQ 7 rfl (by kernel_rfl) rfl (dst_lt rfl) (q_assign (v := S _) rfl) ?_
        refine AnyW.done (by kernel_rfl) ?_
        refine SeqP.go ?_
        refine AW.ret ?_
        refine RetP.mk1 (H' := _) (v1 := S _) rfl rfl  hS9.le ?_
        exact ⟨rfl, rfl⟩
    ·
      rintro _ _ ⟨rfl, rfl⟩
      refine AnyW.onlyQ 1 rfl (by kernel_rfl) rfl (dst_lt rfl) (q_convInt rfl Try.underlying5 rfl) ?_
      refine AnyW.only 2 rfl (by kernel_rfl) rfl (dst_lt rfl) (s_buildSlice (z := .int .u8 0) (vs := nums .u8 [_]) hS7 Try.underlying72 (by kernel_rfl) (by kernel_rfl) rfl (by rfl) (by rfl) (by decide) rfl (nums_one _ _) rfl) ?_
      rintro v5 H10 hS10
      clear hS7
      refine AnyW.onlyQ 3 rfl (by kernel_rfl) rfl (dst_lt rfl) (q_stringVec (hS10.vec at0) Try.underlying72 Try.underlying5 Try.underlying9 rfl) ?_
      refine AnyW.onlyQ 6 rfl (by kernel_rfl) rfl (dst_lt rfl) (q_cat rfl rfl (by simp only [nums_length, List.length_set, List.length_replicate, List.length_take, List.length_drop, List.length_append, List.length_cons, List.length_nil, ofB_length, toB_length]; omega)) ?_
      refine AnyW.onlyQ 7 rfl (by kernel_rfl) rfl (dst_lt rfl) (q_assign (v := S _) rfl) ?_
      refine AnyW.done (by kernel_rfl) ?_
      refine SeqP.go ?_
      refine AW.ret ?_
      refine RetP.mk1 (H' := _) (v1 := S _) rfl rfl  hS10.le ?_
      exact ⟨rfl, rfl⟩
theorem awake_con : Con Try.prog w0 9 #[] H (fun v H' => v = .bool true ∧ H' = H) := by
  have hS0 : Sep H [] H := Sep.refl
  refine Con.intro Try.func9 rfl rfl ?_
  refine AW.seq ?_
  refine AW.region ?_
  refine OpsW.q rfl (q_assign (v := .bool _) rfl) ?_
  refine OpsW.nil ?_
  refine SeqP.go ?_
  refine AW.seq ?_
  refine AW.region ?_
  refine OpsW.m rfl (s_makeSliceB (by_ := 1) hS0 Try.underlying72 (by kernel_rfl) (by kernel_rfl) (by kernel_rfl) rfl rfl (by omega) (by omega) (by omega) (by omega) (by unfold maxLen; omega)) ?_
  rintro v10 H1 hS1
  clear hS0
  refine OpsW.q rfl (q_stringB (hS1.vec at0) Try.underlying72 Try.underlying5 Try.underlying9 rfl) ?_
  refine OpsW.q rfl (o_call rfl Try.func10 rfl rfl (Verify_con (by decide))) ?_
  rw [ver_e1 _ (by first | rfl | decide)]
  refine OpsW.q rfl (q_move (v := .tuple _) rfl) ?_
  refine OpsW.q rfl (q_extract (v := .int _ _) rfl rfl) ?_
  refine OpsW.q rfl (q_extract (v := .int _ _) rfl rfl) ?_
  refine OpsW.q rfl (q_assign (v := .int _ _) rfl) ?_
  refine OpsW.q rfl (q_assign (v := .int _ _) rfl) ?_
  refine OpsW.nil ?_
  refine SeqP.go ?_
  refine AW.seq ?_
  refine AW.region ?_
  refine OpsW.q rfl (o_call rfl Try.func10 rfl rfl (Verify_con (by decide))) ?_
  rw [ver_e2]
  refine OpsW.q rfl (q_move (v := .tuple _) rfl) ?_
  refine OpsW.q rfl (q_extract (v := .int _ _) rfl rfl) ?_
  refine OpsW.q rfl (q_extract (v := .int _ _) rfl rfl) ?_
  refine OpsW.q rfl (q_assign (v := .int _ _) rfl) ?_
  refine OpsW.q rfl (q_assign (v := .int _ _) rfl) ?_
  refine OpsW.nil ?_
  refine SeqP.go ?_
  refine AW.seq ?_
  refine AW.region ?_
  refine OpsW.m rfl (o_call rfl Try.func14 rfl rfl (New_e (n := 1000) (by decide))) ?_
  rintro _ H2 ⟨b20, rfl, hR2⟩
  have hS2 := hS1.join hR2
  simp only [List.cons_append, List.nil_append] at hS2
  clear hR2 hS1
  refine OpsW.q rfl (q_move (v := .tuple _) rfl) ?_
  refine OpsW.q rfl (q_extract (v := .pointer _) rfl rfl) ?_
  refine OpsW.q rfl (q_extract (v := .int _ _) rfl rfl) ?_
  refine OpsW.q rfl (q_assign (v := .pointer _) rfl) ?_
  refine OpsW.q rfl (q_assign (v := .int _ _) rfl) ?_
  refine OpsW.nil ?_
  refine SeqP.go ?_
  refine AW.seq ?_
  refine AW.region ?_
  refine OpsW.q rfl (q_move (v := .pointer _) rfl) ?_
  obtain ⟨Hf3, le3, hA3, hB3⟩ := hS2.framed at0
  refine OpsW.m rfl (o_call rfl Try.func15 rfl rfl (Open_e hA3 (stok_new (by decide)) (openS_new (by decide)).1 (openS_new (by decide)).2)) ?_
  rintro _ H3 ⟨b25, rfl, hR3⟩
  have hS3 := hB3 _ _ hR3
  clear hR3 hB3 hA3
  clear hS2
  refine OpsW.q rfl (q_move (v := .tuple _) rfl) ?_
  refine OpsW.q rfl (q_extract (v := .pointer _) rfl rfl) ?_
  refine OpsW.q rfl (q_extract (v := .int _ _) rfl rfl) ?_
  refine OpsW.q rfl (q_assign (v := .pointer _) rfl) ?_
  refine OpsW.q rfl (q_assign (v := .int _ _) rfl) ?_
  refine OpsW.nil ?_
  refine SeqP.go ?_
  refine AW.seq ?_
  refine AW.region ?_
  refine OpsW.q rfl (q_move (v := .int _ _) rfl) ?_
  refine OpsW.q rfl (q_eql rfl rfl) ?_
  refine OpsW.q rfl (q_move (v := .bool true) rfl) ?_
  refine OpsW.qw rfl rfl (q_move (v := .int _ _) rfl) ?_
  refine OpsW.qw rfl rfl (q_eql rfl rfl) ?_
  refine OpsW.q rfl (q_and2 rfl rfl rfl) ?_
  refine OpsW.q rfl (q_move (v := .bool true) rfl) ?_
  refine OpsW.qw rfl rfl (q_move (v := .int _ _) rfl) ?_
  refine OpsW.qw rfl rfl (q_eql rfl rfl) ?_
  refine OpsW.q rfl (q_and2 rfl rfl rfl) ?_
  refine OpsW.q rfl (q_move (v := .bool true) rfl) ?_
  refine OpsW.qw rfl rfl (q_move (v := .int _ _) rfl) ?_
  refine OpsW.qw rfl rfl (q_eql rfl rfl) ?_
  refine OpsW.q rfl (q_and2 rfl rfl rfl) ?_
  refine OpsW.q rfl (q_move (v := .bool true) rfl) ?_
  refine OpsW.qw rfl rfl (q_move (v := .int _ _) rfl) ?_
  refine OpsW.qw rfl rfl (q_eql rfl rfl) ?_
  refine OpsW.q rfl (q_and2 rfl rfl rfl) ?_
  refine OpsW.q rfl (q_move (v := .bool true) rfl) ?_
  refine OpsW.qw rfl rfl (q_move (v := .pointer _) rfl) ?_
  refine OpsW.qw rfl rfl (o_call rfl Try.func16 rfl rfl (sender_con _)) ?_
  refine OpsW.qw rfl rfl (q_build (cells := #[.int .i64 2, S [120]]) rfl (by kernel_rfl)) ?_
  obtain ⟨Hf4, le4, hA4, hB4⟩ := hS3.framed at0
  refine OpsW.mw rfl rfl (o_call rfl Try.func17 rfl rfl (Add_e hA4 stok0 (stok_new (by decide)) (by decide) rfl (aw_add1 rfl))) ?_
  rintro _ H4 ⟨rfl, hR4⟩
  have hS4 := hB4 _ _ hR4
  clear hR4 hB4 hA4
  clear hS3
  refine OpsW.qw rfl rfl (q_eql rfl rfl) ?_
  refine OpsW.q rfl (q_and2 rfl rfl rfl) ?_
  refine OpsW.q rfl (q_move (v := .bool true) rfl) ?_
  refine OpsW.qw rfl rfl (q_move (v := .pointer _) rfl) ?_
  refine OpsW.qw rfl rfl (o_call rfl Try.func16 rfl rfl (sender_con _)) ?_
  refine OpsW.qw rfl rfl (q_build (cells := #[.int .i64 1, S [120]]) rfl (by kernel_rfl)) ?_
  obtain ⟨Hf5, le5, hA5, hB5⟩ := hS4.framed at0
  refine OpsW.mw rfl rfl (o_call rfl Try.func17 rfl rfl (Add_c hA5 stok0 (stok_new (by decide)) (by decide) rfl)) ?_
  rintro _ H5 ⟨rfl, hR5⟩
  have hS5 := hB5 _ _ hR5
  clear hR5 hB5 hA5
  clear hS4
  rw [aw_add2]
  refine OpsW.qw rfl rfl (q_eql rfl rfl) ?_
  refine OpsW.q rfl (q_and2 rfl rfl rfl) ?_
  refine OpsW.q rfl (q_assign (v := .bool _) rfl) ?_
  refine OpsW.nil ?_
  refine SeqP.go ?_
  refine AW.ret ?_
  refine RetP.mk1 (H' := H) (v1 := .bool _) rfl rfl  hS5.le ?_
  refine ⟨?_, rfl⟩
  simp_all
end
end Go.Proofs.Ytfiojlmccflplaa
end
section
namespace Go.Proofs.Ytfiojlmccflplaa
open Go Go.RowKit D
set_option linter.unusedVariables false
set_option linter.unusedSimpArgs false
def psA (v : Value) (tb : Nat) (X : Option StF) (t : TapeS) : Hp → Prop := fun h => match X with
  | none => v = .pointer none ∧ Sep emp [tapeC tb t] h
  | some x => ∃ b, v = PT b ∧ Sep emp [stC b tb x t] h
abbrev psAc (v : Value) (tb : Nat) (X : Option StF) (t : TapeS) : Chunk := .pred (psA v tb X t)
def psB (v : Value) (tb : Nat) (X : Option StF) (r : RefS) : Hp → Prop := fun h => match X with
  | none => v = .pointer none ∧ Sep emp [.blk tb (rblk r)] h
  | some x => ∃ b, v = PT b ∧ Sep emp [rfC b tb x r] h
abbrev psBc (v : Value) (tb : Nat) (X : Option StF) (r : RefS) : Chunk := .pred (psB v tb X r)
theorem PT_inj {a b : Nat} (h : PT a = PT b) : a = b := by simpa [PT] using h
section
variable {w0 : World} {H0 H : Hp} {K L : List Chunk} {F : Chunk → List Chunk} {b tb : Nat} {v : Value} {X : Option StF} {x : StF} {t t' : TapeS} {r r' : RefS} {who d : List UInt8} {n : Int}
theorem psA_some (h : Sep H0 (psAc v tb (some x) t :: K) H) : ∃ b, v = PT b ∧ Sep H0 (stC b tb x t :: K) H := by
  obtain ⟨h1, ⟨g, hg, b, hb, hK⟩, hall⟩ := Sep.opened h
  exact ⟨b, hb, hall _ (hK.mono hg)⟩
theorem psA_none (h : Sep H0 (psAc v tb none t :: K) H) : v = .pointer none ∧ Sep H0 (tapeC tb t :: K) H := by
  obtain ⟨h1, ⟨g, hg, hb, hK⟩, hall⟩ := Sep.opened h
  exact ⟨hb, hall _ (hK.mono hg)⟩
theorem psA_mk (h : Sep H0 (stC b tb x t :: K) H) : Sep H0 (psAc (PT b) tb (some x) t :: K) H :=
  Sep.close _ (K := [stC b tb x t]) h fun h1 hK => ⟨h1, Hp.le_refl _, b, rfl, hK⟩
theorem psA_mk0 (h : Sep H0 (tapeC tb t :: K) H) : Sep H0 (psAc (.pointer none) tb none t :: K) H :=
  Sep.close _ (K := [tapeC tb t]) h fun h1 hK => ⟨h1, Hp.le_refl _, rfl, hK⟩
theorem psA_tape (h : Sep H0 (psAc v tb X t :: K) H) : Sep H0 (tapeC tb t :: K) H := by
  cases X with
  | none => exact (psA_none h).2
  | some x =>
    obtain ⟨b, _, h1⟩ := psA_some h
    exact sto_tape h1
theorem psA_is (h : Sep H0 L H) (hA : At L (psAc v tb X t) F) (hX : X = some x) : ∃ b, v = PT b := by
  subst hX
  obtain ⟨g, _, b, hb, _⟩ := h.get hA
  exact ⟨b, hb⟩
theorem psA_no (h : Sep H0 L H) (hA : At L (psAc v tb X t) F) (hX : X = none) : v = .pointer none := by
  subst hX
  obtain ⟨g, _, hb, _⟩ := h.get hA
  exact hb
theorem onA {f : FuncId} {args : Array Value} {R : Value → Prop} (hc : ∀ {Hq G : Hp}, Sep Hq [tapeC tb t] G → Con Try.prog w0 f args G (fun u H' => R u ∧ Sep Hq [tapeC tb t'] H')) (h : Sep H0 [psAc v tb X t] H) :
    Con Try.prog w0 f args H (fun u H' => R u ∧ Sep H0 [psAc v tb X t'] H') := by
  cases X with
  | none =>
    obtain ⟨rfl, h1⟩ := psA_none h
    exact (hc h1).mono fun _ _ ⟨h2, h3⟩ => ⟨h2, psA_mk0 h3⟩
  | some x =>
    obtain ⟨b, rfl, h1⟩ := psA_some h
    obtain ⟨mb, h2⟩ := sto_open h1
    obtain ⟨Hf, _, hA, hB⟩ := h2.framed at2
    exact (hc hA).mono fun _ _ ⟨h3, h4⟩ => ⟨h3, psA_mk (sto_close (hB _ _ h4))⟩
theorem Arm_A (h : Sep H0 [psAc v tb X t] H) : Con Try.prog w0 21 #[PT tb, .int .i64 n] H (fun u H' => u = .tuple #[] ∧ Sep H0 [psAc v tb X (armP t n)] H') := onA (fun h => Arm_s h n) h
theorem Crash_A {sp : Bool} (h : Sep H0 [psAc v tb X t] H) (hok : TapeOk t) : Con Try.prog w0 22 #[PT tb, .int .i64 n, .bool sp] H (fun u H' => u = .tuple #[] ∧ Sep H0 [psAc v tb X (crashP t n sp)] H') := onA (fun h => Crash_s h hok n sp) h
theorem Append_A (h : Sep H0 [psAc v tb X t] H) (hok : TapeOk t) (hd : d.length ≤ 1073741824) : Con Try.prog w0 31 #[PT tb, S d] H (fun u H' => u = .int .i64 (appendP t d).1 ∧ Sep H0 [psAc v tb X (appendP t d).2] H') := onA (fun h => Append_s h hok d hd) h
theorem Read_A (h : Sep H0 L H) (hA : At L (psAc v tb X t) F) (hok : TapeOk t) : Con Try.prog w0 24 #[PT tb] H (fun u H' => u = .tuple #[S (readP t).1, .int .i64 (readP t).2] ∧ H' = H) := by
  obtain ⟨Hf, _, h1, _⟩ := h.framed hA
  exact Read_s (psA_tape h1) at0 hok
theorem Dead_A (h : Sep H0 L H) (hA : At L (psAc v tb X t) F) : Con Try.prog w0 34 #[PT tb] H (fun u H' => u = .bool t.dd ∧ H' = H) := by
  obtain ⟨Hf, _, h1, _⟩ := h.framed hA
  exact Dead_s (psA_tape h1) at0
def opX (t : TapeS) : Option StF := if (openS t).1 = 0 then some ⟨(scanS st0 (t.f ++ t.l)).2, false⟩ else none
theorem opX_yes (h : (openS t).1 = 0) : opX t = some ⟨(scanS st0 (t.f ++ t.l)).2, false⟩ := if_pos h
theorem opX_no (h : ¬ (openS t).1 = 0) : opX t = none := if_neg h
theorem Open_A (h : Sep H0 [psAc v tb X t] H) (hok : TapeOk t) : Con Try.prog w0 15 #[PT tb] H (fun u H' => ∃ v', u = .tuple #[v', .int .i64 (openS t).1] ∧ Sep H0 [psAc v' tb (opX t) (openS t).2] H') := by
  refine (OpenS_w (psA_tape h) hok).mono fun u H' h1 => ?_
  rcases h1 with ⟨h2, h3, h4⟩ | ⟨h2, b, h3, h4⟩
  · exact ⟨_, h3, by rw [opX_no h2]; exact psA_mk0 h4⟩
  · exact ⟨_, by rw [h2]; exact h3, by rw [opX_yes h2]; exact psA_mk h4⟩
theorem psA_st (h : Sep H0 (psAc (PT b) tb (some x) t :: K) H) : Sep H0 (stC b tb x t :: K) H := by
  obtain ⟨b', e, h1⟩ := psA_some h
  rw [PT_inj e]; exact h1
theorem Add_A (h : Sep H0 [psAc (PT b) tb (some x) t] H) (hok : StOk x.st.L) (htk : TapeOk t) (hl : x.st.L.length ≤ 1000000) (hh : x.st.h.length = 32) : Con Try.prog w0 17 #[PT b, S who, .agg #[.int .i64 n, S d]] H (fun u H' => u = .int .i64 (addS t x who n d).1 ∧ Sep H0 [psAc (PT b) tb (some (addS t x who n d).2.1) (addS t x who n d).2.2] H') :=
  (Add_c (psA_st h) hok htk hl hh).mono fun _ _ ⟨h2, h3⟩ => ⟨h2, psA_mk h3⟩
theorem Mark_A (h : Sep H0 L H) (hA : At L (psAc (PT b) tb (some x) t) F) : Con Try.prog w0 18 #[PT b, S who] H (fun u H' => u = .int .i64 (mkP x.st.L who) ∧ H' = H) := by
  obtain ⟨Hf, _, h1, _⟩ := h.framed hA
  exact Mark_c (psA_st h1) at0
theorem Of_A (h : Sep H0 L H) (hA : At L (psAc (PT b) tb (some x) t) F) (hl : x.st.L.length ≤ 1000000000) : Con Try.prog w0 19 #[PT b, S who] H (fun v H' => Sep H [recV v (ofP x.st.L who)] H') := by
  obtain ⟨Hf, _, h1, _⟩ := h.framed hA
  exact Of_c (psA_st h1) at0 hl
theorem Head_A (h : Sep H0 L H) (hA : At L (psAc (PT b) tb (some x) t) F) : Con Try.prog w0 20 #[PT b] H (fun u H' => u = S x.st.h ∧ H' = H) := by
  obtain ⟨Hf, _, h1, _⟩ := h.framed hA
  exact Head_c (psA_st h1) at0
theorem psB_some (h : Sep H0 (psBc v tb (some x) r :: K) H) : ∃ b, v = PT b ∧ Sep H0 (rfC b tb x r :: K) H := by
  obtain ⟨h1, ⟨g, hg, b, hb, hK⟩, hall⟩ := Sep.opened h
  exact ⟨b, hb, hall _ (hK.mono hg)⟩
theorem psB_none (h : Sep H0 (psBc v tb none r :: K) H) : v = .pointer none ∧ Sep H0 (.blk tb (rblk r) :: K) H := by
  obtain ⟨h1, ⟨g, hg, hb, hK⟩, hall⟩ := Sep.opened h
  exact ⟨hb, hall _ (hK.mono hg)⟩
theorem psB_mk (h : Sep H0 (rfC b tb x r :: K) H) : Sep H0 (psBc (PT b) tb (some x) r :: K) H :=
  Sep.close _ (K := [rfC b tb x r]) h fun h1 hK => ⟨h1, Hp.le_refl _, b, rfl, hK⟩
theorem psB_mk0 (h : Sep H0 (.blk tb (rblk r) :: K) H) : Sep H0 (psBc (.pointer none) tb none r :: K) H :=
  Sep.close _ (K := [.blk tb (rblk r)]) h fun h1 hK => ⟨h1, Hp.le_refl _, rfl, hK⟩
theorem psB_tape (h : Sep H0 (psBc v tb X r :: K) H) : Sep H0 (.blk tb (rblk r) :: K) H := by
  cases X with
  | none => exact (psB_none h).2
  | some x =>
    obtain ⟨b, _, h1⟩ := psB_some h
    exact rf_tape h1
theorem psB_is (h : Sep H0 L H) (hA : At L (psBc v tb X r) F) (hX : X = some x) : ∃ b, v = PT b := by
  subst hX
  obtain ⟨g, _, b, hb, _⟩ := h.get hA
  exact ⟨b, hb⟩
theorem psB_no (h : Sep H0 L H) (hA : At L (psBc v tb X r) F) (hX : X = none) : v = .pointer none := by
  subst hX
  obtain ⟨g, _, hb, _⟩ := h.get hA
  exact hb
theorem onB {f : FuncId} {args : Array Value} {R : Value → Prop} (hc : ∀ {Hq G : Hp}, Sep Hq [.blk tb (rblk r)] G → Con Try.prog w0 f args G (fun u H' => R u ∧ Sep Hq [.blk tb (rblk r')] H')) (h : Sep H0 [psBc v tb X r] H) :
    Con Try.prog w0 f args H (fun u H' => R u ∧ Sep H0 [psBc v tb X r'] H') := by
  cases X with
  | none =>
    obtain ⟨rfl, h1⟩ := psB_none h
    exact (hc h1).mono fun _ _ ⟨h2, h3⟩ => ⟨h2, psB_mk0 h3⟩
  | some x =>
    obtain ⟨b, rfl, h1⟩ := psB_some h
    obtain ⟨lv, h2⟩ := rf_open h1
    obtain ⟨Hf, _, hA, hB⟩ := h2.framed at2
    exact (hc hA).mono fun _ _ ⟨h3, h4⟩ => ⟨h3, psB_mk (rf_close (hB _ _ h4))⟩
theorem Arm_B (h : Sep H0 [psBc v tb X r] H) (hok : RefOk r) : Con Try.prog w0 28 #[PT tb, .int .i64 n] H (fun u H' => u = .tuple #[] ∧ Sep H0 [psBc v tb X (armR r n)] H') := onB (fun h => ArmR_s h hok n) h
theorem Crash_B {sp : Bool} (h : Sep H0 [psBc v tb X r] H) (hok : RefOk r) : Con Try.prog w0 29 #[PT tb, .int .i64 n, .bool sp] H (fun u H' => u = .tuple #[] ∧ Sep H0 [psBc v tb X (crashR r n sp)] H') := onB (fun h => CrashR_s h hok n sp) h
theorem Append_B (h : Sep H0 [psBc v tb X r] H) (hok : RefOk r) (hd : d.length ≤ 1073741824) : Con Try.prog w0 32 #[PT tb, S d] H (fun u H' => u = .int .i64 (appendR r d).1 ∧ Sep H0 [psBc v tb X (appendR r d).2] H') := onB (fun h => AppendR_s h hok d hd) h
theorem Read_B (h : Sep H0 L H) (hA : At L (psBc v tb X r) F) (hok : RefOk r) : Con Try.prog w0 33 #[PT tb] H (fun u H' => u = .tuple #[S (readR r).1, .int .i64 (readR r).2] ∧ H' = H) := by
  obtain ⟨Hf, _, h1, _⟩ := h.framed hA
  exact ReadR_s (psB_tape h1) at0 hok
theorem Dead_B (h : Sep H0 L H) (hA : At L (psBc v tb X r) F) (hok : RefOk r) : Con Try.prog w0 35 #[PT tb] H (fun u H' => u = .bool r.dd ∧ H' = H) := by
  obtain ⟨Hf, _, h1, _⟩ := h.framed hA
  exact DeadR_s (psB_tape h1) at0 hok
theorem psB_st (h : Sep H0 (psBc (PT b) tb (some x) r :: K) H) : Sep H0 (rfC b tb x r :: K) H := by
  obtain ⟨b', e, h1⟩ := psB_some h
  rw [PT_inj e]; exact h1
theorem psB_blk (h : Sep H0 L H) (hA : At L (psBc (PT b) tb (some x) r) F) : ∃ lv, H b = some (rfBlk tb x lv) := by
  obtain ⟨Hf, _, h1, _⟩ := h.framed hA
  obtain ⟨lv, h2, _⟩ := rf_look (psB_st h1) at0
  exact ⟨lv, h2⟩
theorem Add_B {x' : StF} (h : Sep H0 [psBc (PT b) tb (some x) r] H) (hok : StOk x.st.L) (hrf : RefOk r) (hrf2 : ∀ d, RefOk (appendR r d).2) (hl : x.st.L.length ≤ 1000000) (hh : x.st.h.length = 32) (he : (addR r x who n d).2.1 = x') : Con Try.prog w0 27 #[PT b, S who, .agg #[.int .i64 n, S d]] H (fun u H' => u = .int .i64 (addR r x who n d).1 ∧ Sep H0 [psBc (PT b) tb (some x') (addR r x who n d).2.2] H') := by
  obtain ⟨lv, h1⟩ := rf_open (psB_st h)
  exact (AddR_w h1 hok hrf hrf2 hl hh).mono fun _ _ ⟨h2, h3⟩ => ⟨h2, by rw [he] at h3; exact psB_mk h3⟩
theorem Mark_B (h : Sep H0 L H) (hA : At L (psBc (PT b) tb (some x) r) F) (hok : StOk x.st.L) (hl : x.st.L.length ≤ 1000000000) : Con Try.prog w0 36 #[PT b, S who] H (fun u H' => u = .int .i64 (mkP x.st.L who) ∧ H' = H) := by
  obtain ⟨Hf, _, h1, _⟩ := h.framed hA
  obtain ⟨lv, h2, h3⟩ := rf_look (psB_st h1) at0
  exact MarkR_con h2 h3 hok hl
theorem Of_B (h : Sep H0 L H) (hA : At L (psBc (PT b) tb (some x) r) F) (hok : StOk x.st.L) (hl : x.st.L.length ≤ 1000000000) : Con Try.prog w0 37 #[PT b, S who] H (fun v H' => Sep H [recV v (ofP x.st.L who)] H') := by
  obtain ⟨Hf, _, h1, _⟩ := h.framed hA
  obtain ⟨lv, h2, h3⟩ := rf_look (psB_st h1) at0
  exact OfR_con h2 h3 hok hl
end
section
variable {t : TapeS} {r : RefS} {x : StF} {who d : List UInt8} {n : Int} {i : Nat}
theorem inv_open (h : Inv t r) : (openR r).1 = (openS t).1 ∧ Inv (openS t).2 (openR r).2 := by
  have hd := inv_dd h
  have ht := h.1.t
  by_cases hdd : t.dd = true
  · rw [openS_dead hdd, openR_dead (by rw [hd, hdd])]; exact ⟨rfl, h⟩
  · have hd' : t.dd = false := by simpa using hdd
    rw [openS_go hd', openR_go (by rw [hd, hd'])]
    by_cases hc : (scanS st0 (t.f ++ t.l)).1 < (t.f ++ t.l).length
    · rw [openSC_cut hc, openRC_cut (by rw [ht]; exact hc), ht]; exact inv_cut h _
    · rw [openSC_sync hc, openRC_sync (by rw [ht]; exact hc)]; exact inv_sync h
theorem lay_sim (h : Inv t r) : (layR r x who n d).1 = (layS t x who n d).1 ∧ (layR r x who n d).2.1 = (layS t x who n d).2.1 ∧ Inv (layS t x who n d).2.2 (layR r x who n d).2.2 := by
  have ha := inv_append h (frS x.st.h (bodyS who n d))
  have hs := inv_sync ha.2
  by_cases h1 : (appendP t (frS x.st.h (bodyS who n d))).1 = 40
  · rw [layS_full h1, layR_full (by rw [ha.1]; exact h1)]; exact ⟨rfl, rfl, ha.2⟩
  · by_cases h2 : (appendP t (frS x.st.h (bodyS who n d))).1 = 0
    · by_cases h3 : (syncP (appendP t (frS x.st.h (bodyS who n d))).2).1 = 0
      · rw [layS_ok h2 h3, layR_ok (by rw [ha.1]; exact h2) (by rw [hs.1]; exact h3)]; exact ⟨rfl, rfl, hs.2⟩
      · rw [layS_syn h2 h3, layR_syn (by rw [ha.1]; exact h2) (by rw [hs.1]; exact h3)]; exact ⟨hs.1, rfl, hs.2⟩
    · rw [layS_app h1 h2, layR_app (by rw [ha.1]; exact h1) (by rw [ha.1]; exact h2)]; exact ⟨ha.1, rfl, ha.2⟩
theorem add_sim (h : Inv t r) : (addR r x who n d).1 = (addS t x who n d).1 ∧ (addR r x who n d).2.1 = (addS t x who n d).2.1 ∧ Inv (addS t x who n d).2.2 (addR r x who n d).2.2 := by
  by_cases h1 : x.dd = true
  · rw [addS_dead h1, addR_dead h1]; exact ⟨rfl, rfl, h⟩
  · have h1' : x.dd = false := by simpa using h1
    by_cases h2 : addBad who n d
    · rw [addS_arg h1' h2, addR_arg h1' h2]; exact ⟨rfl, rfl, h⟩
    · by_cases h3 : n ≤ mkP x.st.L who
      · rw [addS_old h1' h2 h3, addR_old h1' h2 h3]; exact ⟨rfl, rfl, h⟩
      · by_cases h4 : mkP x.st.L who + 1 < n
        · rw [addS_seq h1' h2 h4, addR_seq h1' h2 h4]; exact ⟨rfl, rfl, h⟩
        · rw [addS_go h1' h2 (by omega), addR_go h1' h2 (by omega)]; exact lay_sim h
theorem scan_facts : ∀ (k : Nat) (s : StS) (all : List UInt8), all.length ≤ k → StOk s.L → s.h.length = 32 → StOk (scanS s all).2.L ∧ (scanS s all).2.h.length = 32 ∧ 73 * (scanS s all).2.L.length ≤ 73 * s.L.length + (scanS s all).1 ∧ (scanS s all).1 ≤ all.length := by
  intro k
  induction k with
  | zero =>
    intro s all hk h1 h2
    have hg : ¬ goesS s all := fun g => by have := goes_len g; omega
    rw [scanS_end hg]
    exact ⟨h1, h2, by dsimp only; omega, by dsimp only; omega⟩
  | succ k ih =>
    intro s all hk h1 h2
    by_cases hg : goesS s all
    · have hl := goes_len hg
      have hln : (nextS s all).L.length ≤ s.L.length + 1 := takeS_len s _ _
      obtain ⟨e1, e2, e3, e4⟩ := ih (nextS s all) (all.drop (stepS s all)) (by rw [List.length_drop]; omega) (takeS_ok h1 _ _) (nextS_head hg)
      rw [List.length_drop] at e4
      rw [scanS_go hg]
      exact ⟨e1, e2, by dsimp only; omega, by dsimp only; omega⟩
    · rw [scanS_end hg]
      exact ⟨h1, h2, by dsimp only; omega, by dsimp only; omega⟩
structure StG (i : Nat) (x : StF) : Prop where
  ok : StOk x.st.L
  hh : x.st.h.length = 32
  len : x.st.L.length ≤ 300000 + i
def PlI (i : Nat) (X : Option StF) (t : TapeS) (r : RefS) : Prop := Inv t r ∧ ∀ x, X = some x → StG i x
theorem pl_open (h : Inv t r) : PlI i (opX t) (openS t).2 (openR r).2 := by
  refine ⟨(inv_open h).2, fun x hx => ?_⟩
  by_cases ho : (openS t).1 = 0
  · rw [opX_yes ho] at hx
    obtain rfl := Option.some.inj hx
    obtain ⟨e1, e2, e3, e4⟩ := scan_facts _ st0 (t.f ++ t.l) (Nat.le_refl _) stok0 rfl
    have hl := tk_len h.2.1
    exact ⟨e1, e2, by
      have : st0.L.length = 0 := rfl
      show (scanS st0 (t.f ++ t.l)).2.L.length ≤ _
      omega⟩
  · rw [opX_no ho] at hx; cases hx
theorem Open_B {w0 : World} {H0 H : Hp} {v : Value} {tb : Nat} {X : Option StF} (hI : Inv t r) (h : Sep H0 [psBc v tb X r] H) : Con Try.prog w0 26 #[PT tb] H (fun u H' => ∃ v', u = .tuple #[v', .int .i64 (openS t).1] ∧ Sep H0 [psBc v' tb (opX t) (openR r).2] H') := by
  have he := (inv_open hI).1
  refine (OpenR_w (psB_tape h) hI.ref (by have := hI.ref.2.2.1; omega)).mono fun u H' h1 => ?_
  rcases h1 with ⟨h2, h3, h4⟩ | ⟨h2, b, h3, h4⟩
  · exact ⟨_, by rw [← he]; exact h3, by rw [opX_no (by rw [← he]; exact h2)]; exact psB_mk0 h4⟩
  · exact ⟨_, by rw [← he, h2]; exact h3, by rw [opX_yes (by rw [← he]; exact h2), ← hI.1.t]; exact psB_mk h4⟩
theorem New_p {w0 : World} {H : Hp} {n : Int} (h : 1 ≤ n ∧ n ≤ 16777216) : Con Try.prog w0 14 #[.int .i64 n] H (fun v H' => ∃ b, v = .tuple #[PT b, .int .i64 0] ∧ Sep H [psAc (.pointer none) b none ⟨n, [], [], 0, false⟩] H') :=
  (New_e h).mono fun _ _ ⟨b, h1, h2⟩ => ⟨b, h1, psA_mk0 h2⟩
theorem NewR_p {w0 : World} {H : Hp} {n : Int} (h : 1 ≤ n ∧ n ≤ 16777216) : Con Try.prog w0 25 #[.int .i64 n] H (fun v H' => ∃ b, v = .tuple #[PT b, .int .i64 0] ∧ Sep H [psBc (.pointer none) b none ⟨[], 0, n, 0, false⟩] H') :=
  (NewR_s n).mono fun _ _ h1 => h1.elim (fun h2 => absurd h2.1 (by omega)) (fun h2 => by obtain ⟨_, b, h3, h4⟩ := h2; exact ⟨b, h3, psB_mk0 h4⟩)
theorem New_no {w0 : World} {H : Hp} {n : Int} (h : ¬ (1 ≤ n ∧ n ≤ 16777216)) : Con Try.prog w0 14 #[.int .i64 n] H (fun v H' => v = .tuple #[.pointer none, .int .i64 1] ∧ H' = H) :=
  (New_s n).mono fun _ _ h1 => h1.elim (fun h2 => h2.2) (fun h2 => absurd h2.1 h)
theorem NewR_no {w0 : World} {H : Hp} {n : Int} (h : ¬ (1 ≤ n ∧ n ≤ 16777216)) : Con Try.prog w0 25 #[.int .i64 n] H (fun v H' => v = .tuple #[.pointer none, .int .i64 1] ∧ H' = H) :=
  (NewR_s n).mono fun _ _ h1 => h1.elim (fun h2 => h2.2) (fun h2 => absurd h2.1 h)
theorem StG.next (h : StG i x) : StG (i + 1) x := ⟨h.ok, h.hh, by have := h.len; omega⟩
theorem add_good (h : StG i x) (hw : True) : StG (i + 1) (addS t x who n d).2.1 := by
  by_cases h1 : x.dd = true
  · rw [addS_dead h1]; exact h.next
  · have h1' : x.dd = false := by simpa using h1
    by_cases h2 : addBad who n d
    · rw [addS_arg h1' h2]; exact h.next
    · by_cases h3 : n ≤ mkP x.st.L who
      · rw [addS_old h1' h2 h3]; exact h.next
      · by_cases h4 : mkP x.st.L who + 1 < n
        · rw [addS_seq h1' h2 h4]; exact h.next
        · rw [addS_go h1' h2 (by omega)]
          have hq : n = mkP x.st.L who + 1 := by omega
          by_cases g1 : (appendP t (frS x.st.h (bodyS who n d))).1 = 40
          · rw [layS_full g1]; exact h.next
          · by_cases g2 : (appendP t (frS x.st.h (bodyS who n d))).1 = 0
            · by_cases g3 : (syncP (appendP t (frS x.st.h (bodyS who n d))).2).1 = 0
              · rw [layS_ok g2 g3]
                exact ⟨stok_snoc h.ok hq, nxS_len _ _, by show (x.st.L ++ [_]).length ≤ _; rw [List.length_append]; have := h.len; simp; omega⟩
              · rw [layS_syn g2 g3]; exact ⟨h.next.ok, h.next.hh, h.next.len⟩
            · rw [layS_app g1 g2]; exact ⟨h.next.ok, h.next.hh, h.next.len⟩
theorem pl_add (h : PlI i (some x) t r) : PlI (i + 1) (some (addS t x who n d).2.1) (addS t x who n d).2.2 (addR r x who n d).2.2 :=
  ⟨(add_sim h.1).2.2, fun y hy => by obtain rfl := Option.some.inj hy; exact add_good (h.2 x rfl) trivial⟩
theorem pl_same {X : Option StF} {t' : TapeS} {r' : RefS} (h : PlI i X t r) (hI : Inv t' r') : PlI (i + 1) X t' r' := ⟨hI, fun x hx => (h.2 x hx).next⟩
end
end Go.Proofs.Ytfiojlmccflplaa
end
section
namespace Go.Proofs.Ytfiojlmccflplaa
open Go Go.RowKit D
set_option linter.unusedVariables false
set_option linter.unusedSimpArgs false
set_option maxRecDepth 100000
set_option maxHeartbeats 2000000
section
variable {w0 : World} {H : Hp} {H0 : Hp}
structure OpT where
  ask : Int
  who : Int
  n : Int
  dat : List UInt8
  sp : Bool
def opCells5 (o : OpT) : List Value := [.int .i64 o.ask, .int .i64 o.who, .int .i64 o.n, S o.dat, .bool o.sp]
section
variable {i : Nat} {x : StF} {t : TapeS} {m : Vals} {k n : Int} {d : List UInt8}
end
end
end Go.Proofs.Ytfiojlmccflplaa
end
section
namespace Go.Proofs.Ytfiojlmccflplaa
open Go Go.RowKit D
set_option linter.unusedVariables false
set_option linter.unusedSimpArgs false
set_option maxRecDepth 100000
set_option maxHeartbeats 2000000
section
variable {w0 : World} {H : Hp} {H0 : Hp}
theorem Same_con {va vb : Value} {l m : RecL} (hVa : Vec H 44 2 va l.length (rowsV recC l)) (hVb : Vec H 44 2 vb m.length (rowsV recC m)) (hl : l.length ≤ 1000000000) (hm : m.length ≤ 1000000000) : Con Try.prog w0 23 #[va, vb] H (fun v H' => v = .bool (decide (l = m)) ∧ H' = H) := by
  have hS0 : Sep H [] H := Sep.refl
  refine Con.intro Try.func23 rfl rfl ?_
  refine AW.seq ?_
  refine AW.region ?_
  refine OpsW.q rfl (q_assign (v := .bool _) rfl) ?_
  refine OpsW.nil ?_
  refine SeqP.go ?_
  refine AW.seq ?_
  refine AW.seq ?_
  refine AW.region ?_
  refine OpsW.q rfl (q_move (v := va) rfl) ?_
  refine OpsW.q rfl (q_lenVec Try.underlying46 rfl (hVa.le hS0.le)) ?_
  refine OpsW.q rfl (q_move (v := vb) rfl) ?_
  refine OpsW.q rfl (q_lenVec Try.underlying46 rfl (hVb.le hS0.le)) ?_
  refine OpsW.q rfl (q_neq rfl rfl) ?_
  refine OpsW.nil ?_
  refine SeqP.go ?_
  refine AW.cond rfl (fun h0 => ?_) (fun h0 => ?_)
  ·
    try simp only [decide_eq_true_eq, decide_eq_false_iff_not, Bool.or_eq_true, Bool.and_eq_true, Bool.or_eq_false_iff, Bool.and_eq_false_imp, Bool.not_eq_true', Bool.not_eq_false', ne_eq, Decidable.not_not, Int.not_lt, Int.not_le, Bool.not_eq_true, Bool.not_eq_false] at h0
    have hne : l ≠ m := fun e => by rw [e] at h0; simp at h0
    refine AW.seq ?_
    refine AW.region ?_
    refine OpsW.q rfl (q_assign (v := .bool _) rfl) ?_
    refine OpsW.nil ?_
    refine SeqP.go ?_
    refine AW.ret ?_
    refine SeqP.ret ?_
    refine RetP.mk1 (H' := H) (v1 := .bool _) rfl rfl  hS0.le ?_
    exact ⟨by rw [decide_eq_false hne], rfl⟩
  try simp only [decide_eq_true_eq, decide_eq_false_iff_not, Bool.or_eq_true, Bool.and_eq_true, Bool.or_eq_false_iff, Bool.and_eq_false_imp, Bool.not_eq_true', Bool.not_eq_false', ne_eq, Decidable.not_not, Int.not_lt, Int.not_le, Bool.not_eq_true, Bool.not_eq_false] at h0
  have hlm : l.length = m.length := by omega
  refine AW.skip ?_
  refine SeqP.go ?_
  refine AW.seq ?_
  refine AW.seq ?_
  refine AW.region ?_
  refine OpsW.q rfl (q_assign (v := .int _ _) rfl) ?_
  refine OpsW.nil ?_
  refine SeqP.go ?_
  refine AW.block ?_
  refine AW.loop (fun m_ e_ H_ => ∃ (i : Nat) (e0 : Env), m_ = l.length - i ∧ (i ≤ l.length ∧ ∀ j, j < i → l[j]? = m[j]?) ∧ e_ = upds e0 [(0, va), (1, vb), (5, .int .i64 (i : Int))] ∧ Sep H [] H_) _ ⟨0, _, rfl, ⟨Nat.zero_le _, fun j hj => by omega⟩, Slots.eq ⟨(by rfl), (by rfl), (by rfl),  trivial⟩, hS0⟩ ?_
  rintro m_ _ Hl0 ⟨i, e0, rfl, ⟨hi, hf⟩, rfl, hSl0⟩
  try clear hS0
  refine AW.seq ?_
  refine AW.seq ?_
  refine AW.region ?_
  refine OpsW.q rfl (q_move (v := .int _ _) rfl) ?_
  refine OpsW.q rfl (q_move (v := va) rfl) ?_
  refine OpsW.q rfl (q_lenVec Try.underlying46 rfl (hVa.le hSl0.le)) ?_
  refine OpsW.q rfl (q_lss rfl rfl) ?_
  refine OpsW.nil ?_
  refine SeqP.go ?_
  refine AW.cond2 rfl (fun h1 => ?_) (fun h1 => ?_)
  ·
    try simp only [decide_eq_true_eq, decide_eq_false_iff_not, Bool.or_eq_true, Bool.and_eq_true, Bool.or_eq_false_iff, Bool.and_eq_false_imp, Bool.not_eq_true', Bool.not_eq_false', ne_eq, Decidable.not_not, Int.not_lt, Int.not_le, Bool.not_eq_true, Bool.not_eq_false] at h1
    refine AW.exit ?_
    refine SeqP.exit ?_
    refine LoopP.exit ?_
    have heq : l = m := List.ext_getElem? fun j => (Nat.lt_or_ge j l.length).elim (fun g => hf j (by omega)) (fun g => by rw [List.getElem?_eq_none g, List.getElem?_eq_none (by omega)])
    refine BlockP.here ?_
    refine SeqP.go ?_
    refine AW.seq ?_
    refine AW.region ?_
    refine OpsW.q rfl (q_assign (v := .bool _) rfl) ?_
    refine OpsW.nil ?_
    refine SeqP.go ?_
    refine AW.ret ?_
    refine RetP.mk1 (H' := H) (v1 := .bool _) rfl rfl  hSl0.le ?_
    exact ⟨by rw [decide_eq_true heq], rfl⟩
  try simp only [decide_eq_true_eq, decide_eq_false_iff_not, Bool.or_eq_true, Bool.and_eq_true, Bool.or_eq_false_iff, Bool.and_eq_false_imp, Bool.not_eq_true', Bool.not_eq_false', ne_eq, Decidable.not_not, Int.not_lt, Int.not_le, Bool.not_eq_true, Bool.not_eq_false] at h1
  have hil : i < l.length := by omega
  obtain ⟨r, hr⟩ : ∃ r, l[i]? = some r := ⟨l[i], List.getElem?_eq_getElem hil⟩
  obtain ⟨q, hq⟩ : ∃ q, m[i]? = some q := ⟨m[i], List.getElem?_eq_getElem (by omega)⟩
  refine AW.skip ?_
  refine SeqP.go ?_
  refine AW.seq ?_
  refine AW.block ?_
  refine AW.seq ?_
  refine AW.drawK [] 8 rfl (by kernel_rfl) ?_
  refine SeqK.q rfl (q_move (v := va) rfl) ?_
  refine SeqK.q rfl (q_move (v := .int _ _) rfl) ?_
  refine SeqK.q rfl (q_indexV (Vec.le hVa hSl0.le) Try.underlying46 (by kernel_rfl) rfl rfl (by omega) (by omega)) ?_
  refine SeqK.q rfl (q_loadVR (Vec.le hVa hSl0.le) recC_len (by kernel_rfl) rfl hr (by omega)) ?_
  refine SeqK.q rfl (q_move (v := vb) rfl) ?_
  refine SeqK.q rfl (q_move (v := .int _ _) rfl) ?_
  refine SeqK.q rfl (q_indexV (Vec.le hVb hSl0.le) Try.underlying46 (by kernel_rfl) rfl rfl (by omega) (by omega)) ?_
  refine SeqK.q rfl (q_loadVR (Vec.le hVb hSl0.le) recC_len (by kernel_rfl) rfl hq (by omega)) ?_
  refine SeqK.done ?_
  refine OpsW.q rfl (q_neqRecord rfl rfl) ?_
  refine OpsW.nil ?_
  refine SeqP.go ?_
  refine AW.cond rfl (fun h2 => ?_) (fun h2 => ?_)
  ·
    try simp only [decide_eq_true_eq, decide_eq_false_iff_not, Bool.or_eq_true, Bool.and_eq_true, Bool.or_eq_false_iff, Bool.and_eq_false_imp, Bool.not_eq_true', Bool.not_eq_false', ne_eq, Decidable.not_not, Int.not_lt, Int.not_le, Bool.not_eq_true, Bool.not_eq_false] at h2
    have hne : l ≠ m := fun e => by subst e; rw [hr] at hq; cases hq; simp at h2
    refine AW.seq ?_
    refine AW.region ?_
    refine OpsW.q rfl (q_assign (v := .bool _) rfl) ?_
    refine OpsW.nil ?_
    refine SeqP.go ?_
    refine AW.ret ?_
    refine BlockP.ret ?_
    refine SeqP.ret ?_
    refine LoopP.ret ?_
    refine BlockP.ret ?_
    refine SeqP.ret ?_
    refine RetP.mk1 (H' := H) (v1 := .bool _) rfl rfl  hSl0.le ?_
    exact ⟨by rw [decide_eq_false hne], rfl⟩
  try simp only [decide_eq_true_eq, decide_eq_false_iff_not, Bool.or_eq_true, Bool.and_eq_true, Bool.or_eq_false_iff, Bool.and_eq_false_imp, Bool.not_eq_true', Bool.not_eq_false', ne_eq, Decidable.not_not, Int.not_lt, Int.not_le, Bool.not_eq_true, Bool.not_eq_false] at h2
  have hrq : r = q := by cases r; cases q; simp_all
  refine AW.skip ?_
  refine BlockP.go ?_
  refine SeqP.go ?_
  refine AW.region ?_
  refine OpsW.q rfl (q_move (v := .int _ _) rfl) ?_
  refine OpsW.q rfl (q_addI rfl rfl (by omega)) ?_
  refine OpsW.q rfl (q_assign (v := .int _ _) rfl) ?_
  refine OpsW.nil ?_
  exact LoopP.go _ (by omega) ⟨i + 1, _, rfl, ⟨by omega, fun j hj => (Nat.lt_or_ge j i).elim (hf j) (fun g => by rw [show j = i from by omega, hr, hq, hrq])⟩, Slots.eq ⟨(by rfl), (by rfl), (by rfl),  trivial⟩, hSl0⟩
theorem plays_con {rops : Option Addr} {q c : Nat} (n : Int) (o : Nat → OpT) (odd : List UInt8) (hrops : RowsAt w0 rops q 5 fun j => opCells5 (o j)) (hm : q ≤ maxLen) (hob : ∀ j, j < q → -9223372036854775808 ≤ (o j).n ∧ (o j).n ≤ 9223372036854775807) (hodd : odd.length ≤ 1048576) : Con Try.prog w0 8 #[.int .i64 n, .slice rops q c, S odd] H (fun v H' => v = .bool true ∧ H' = H) := by
  have hS0 : Sep H [] H := Sep.refl
  unfold maxLen at hm
  refine Con.intro Try.func8 rfl rfl ?_
  refine AW.seq ?_
  refine AW.region ?_
  refine OpsW.q rfl (q_assign (v := .bool _) rfl) ?_
  refine OpsW.nil ?_
  refine SeqP.go ?_
  refine AW.seq ?_
  refine AW.seq ?_
  refine AW.region ?_
  refine OpsW.q rfl (q_move (v := .int _ _) rfl) ?_
  refine OpsW.q rfl (q_gtr rfl rfl) ?_
  refine OpsW.nil ?_
  refine SeqP.go ?_
  refine AW.cond rfl (fun h0 => ?_) (fun h0 => ?_)
  ·
    try simp only [decide_eq_true_eq, decide_eq_false_iff_not, Bool.or_eq_true, Bool.and_eq_true, Bool.or_eq_false_iff, Bool.and_eq_false_imp, Bool.not_eq_true', Bool.not_eq_false', ne_eq, Decidable.not_not, Int.not_lt, Int.not_le, Bool.not_eq_true, Bool.not_eq_false] at h0
    refine AW.seq ?_
    refine AW.region ?_
    refine OpsW.q rfl (o_call rfl Try.func9 rfl rfl (awake_con)) ?_
    refine OpsW.q rfl (q_assign (v := .bool _) rfl) ?_
    refine OpsW.nil ?_
    refine SeqP.go ?_
    refine AW.ret ?_
    refine SeqP.ret ?_
    refine RetP.mk1 (H' := _) (v1 := .bool _) rfl rfl  hS0.le ?_
    exact ⟨rfl, rfl⟩
  try simp only [decide_eq_true_eq, decide_eq_false_iff_not, Bool.or_eq_true, Bool.and_eq_true, Bool.or_eq_false_iff, Bool.and_eq_false_imp, Bool.not_eq_true', Bool.not_eq_false', ne_eq, Decidable.not_not, Int.not_lt, Int.not_le, Bool.not_eq_true, Bool.not_eq_false] at h0
  refine AW.skip ?_
  refine SeqP.go ?_
  refine AW.seq ?_
  by_cases hlim : 1 ≤ n ∧ n ≤ 16777216
  ·
    refine AW.region ?_
    refine OpsW.q rfl (q_move (v := .int _ _) rfl) ?_
    refine OpsW.m rfl (o_call rfl Try.func14 rfl rfl (New_p hlim)) ?_
    rintro _ H1 ⟨b30, rfl, hR1⟩
    have hS1 := hS0.join hR1
    simp only [List.cons_append, List.nil_append] at hS1
    clear hR1 hS0
    refine OpsW.q rfl (q_move (v := .tuple _) rfl) ?_
    refine OpsW.q rfl (q_extract (v := .pointer _) rfl rfl) ?_
    refine OpsW.q rfl (q_extract (v := .int _ _) rfl rfl) ?_
    refine OpsW.q rfl (q_assign (v := .pointer _) rfl) ?_
    refine OpsW.q rfl (q_assign (v := .int _ _) rfl) ?_
    refine OpsW.nil ?_
    refine SeqP.go ?_
    refine AW.seq ?_
    refine AW.region ?_
    refine OpsW.q rfl (q_move (v := .int _ _) rfl) ?_
    refine OpsW.m rfl (o_call rfl Try.func25 rfl rfl (NewR_p hlim)) ?_
    rintro _ H2 ⟨b35, rfl, hR2⟩
    have hS2 := hS1.join hR2
    simp only [List.cons_append, List.nil_append] at hS2
    clear hR2 hS1
    refine OpsW.q rfl (q_move (v := .tuple _) rfl) ?_
    refine OpsW.q rfl (q_extract (v := .pointer _) rfl rfl) ?_
    refine OpsW.q rfl (q_extract (v := .int _ _) rfl rfl) ?_
    refine OpsW.q rfl (q_assign (v := .pointer _) rfl) ?_
    refine OpsW.q rfl (q_assign (v := .int _ _) rfl) ?_
    refine OpsW.nil ?_
    refine SeqP.go ?_
    refine AW.seq ?_
    refine AW.seq ?_
    refine AW.region ?_
    refine OpsW.q rfl (q_move (v := .int _ _) rfl) ?_
    refine OpsW.q rfl (q_move (v := .int _ _) rfl) ?_
    refine OpsW.q rfl (q_neq rfl rfl) ?_
    refine OpsW.q rfl (q_move (v := .bool false) rfl) ?_
    refine OpsW.qw rfl rfl (q_move (v := .pointer _) rfl) ?_
    refine OpsW.qw rfl rfl (q_eqlP Try.underlying32 rfl rfl) ?_
    refine OpsW.qw rfl rfl (q_move (v := .pointer _) rfl) ?_
    refine OpsW.qw rfl rfl (q_eqlP Try.underlying59 rfl rfl) ?_
    refine OpsW.qw rfl rfl (q_neqB Try.underlying4 rfl rfl) ?_
    refine OpsW.q rfl (q_or2 rfl rfl rfl) ?_
    refine OpsW.nil ?_
    refine SeqP.go ?_
    refine AW.cond rfl (fun h1 => ?_) (fun h1 => ?_)
    ·
      exfalso
      try simp only [decide_eq_true_eq, decide_eq_false_iff_not, Bool.or_eq_true, Bool.and_eq_true, Bool.or_eq_false_iff, Bool.and_eq_false_imp, Bool.not_eq_true', Bool.not_eq_false', ne_eq, Decidable.not_not, Int.not_lt, Int.not_le, Bool.not_eq_true, Bool.not_eq_false] at h1
      first | contradiction | (simp at *; done) | simp_all
    try simp only [decide_eq_true_eq, decide_eq_false_iff_not, Bool.or_eq_true, Bool.and_eq_true, Bool.or_eq_false_iff, Bool.and_eq_false_imp, Bool.not_eq_true', Bool.not_eq_false', ne_eq, Decidable.not_not, Int.not_lt, Int.not_le, Bool.not_eq_true, Bool.not_eq_false] at h1
    refine AW.skip ?_
    refine SeqP.go ?_
    refine AW.seq ?_
    refine AW.seq ?_
    refine AW.region ?_
    refine OpsW.q rfl (q_move (v := .pointer _) rfl) ?_
    refine OpsW.q rfl (q_eqlP Try.underlying59 rfl rfl) ?_
    refine OpsW.nil ?_
    refine SeqP.go ?_
    refine AW.cond rfl (fun h2 => ?_) (fun h2 => ?_)
    ·
      exfalso
      try simp only [decide_eq_true_eq, decide_eq_false_iff_not, Bool.or_eq_true, Bool.and_eq_true, Bool.or_eq_false_iff, Bool.and_eq_false_imp, Bool.not_eq_true', Bool.not_eq_false', ne_eq, Decidable.not_not, Int.not_lt, Int.not_le, Bool.not_eq_true, Bool.not_eq_false] at h2
      first | contradiction | (simp at *; done) | simp_all
    try simp only [decide_eq_true_eq, decide_eq_false_iff_not, Bool.or_eq_true, Bool.and_eq_true, Bool.or_eq_false_iff, Bool.and_eq_false_imp, Bool.not_eq_true', Bool.not_eq_false', ne_eq, Decidable.not_not, Int.not_lt, Int.not_le, Bool.not_eq_true, Bool.not_eq_false] at h2
    refine AW.skip ?_
    refine SeqP.go ?_
    refine AW.seq ?_
    refine AW.region ?_
    refine OpsW.q rfl (q_move (v := .pointer _) rfl) ?_
    obtain ⟨Hf3, le3, hA3, hB3⟩ := hS2.framed at1
    refine OpsW.m rfl (o_call rfl Try.func15 rfl rfl (Open_A hA3 (stok_new hlim))) ?_
    rintro v53 H3 ⟨va53, rfl, hR3⟩
    have hS3 := hB3 _ _ hR3
    clear hR3 hB3 hA3
    clear hS2
    refine OpsW.q rfl (q_move (v := .tuple _) rfl) ?_
    refine OpsW.q rfl (q_extract (v := va53) rfl rfl) ?_
    refine OpsW.q rfl (q_extract (v := .int _ _) rfl rfl) ?_
    refine OpsW.q rfl (q_assign (v := va53) rfl) ?_
    refine OpsW.q rfl (q_assign (v := .int _ _) rfl) ?_
    refine OpsW.nil ?_
    refine SeqP.go ?_
    refine AW.seq ?_
    refine AW.region ?_
    refine OpsW.q rfl (q_move (v := .pointer _) rfl) ?_
    obtain ⟨Hf4, le4, hA4, hB4⟩ := hS3.framed at0
    refine OpsW.m rfl (o_call rfl Try.func26 rfl rfl (Open_B (inv_new hlim) hA4)) ?_
    rintro v58 H4 ⟨vb58, rfl, hR4⟩
    have hS4 := hB4 _ _ hR4
    clear hR4 hB4 hA4
    clear hS3
    refine OpsW.q rfl (q_move (v := .tuple _) rfl) ?_
    refine OpsW.q rfl (q_extract (v := vb58) rfl rfl) ?_
    refine OpsW.q rfl (q_extract (v := .int _ _) rfl rfl) ?_
    refine OpsW.q rfl (q_assign (v := vb58) rfl) ?_
    refine OpsW.q rfl (q_assign (v := .int _ _) rfl) ?_
    refine OpsW.nil ?_
    refine SeqP.go ?_
    refine AW.seq ?_
    refine AW.seq ?_
    refine AW.region ?_
    refine OpsW.q rfl (q_assign (v := .int _ _) rfl) ?_
    refine OpsW.nil ?_
    refine SeqP.go ?_
    refine AW.block ?_
    replace hS4 := Sep.bring del0 hS4
    replace hS4 := Sep.bring del1 hS4
    refine AW.loop (fun m_ e_ H_ => ∃ (i : Nat) (X : Option StF) (t : TapeS) (r : RefS) (va vb : Value) (e0 : Env), m_ = q - i ∧ (PlI i X t r ∧ i ≤ 60) ∧ e_ = upds e0 [(1, .slice rops q c), (2, S odd), (7, .pointer (some ⟨b30, 0, none⟩)), (9, .pointer (some ⟨b35, 0, none⟩)), (11, va), (13, vb), (15, .int .i64 (i : Int))] ∧ Sep H [psAc va b30 X t, psBc vb b35 X r] H_) _ ⟨0, _, _, _, _, _, _, rfl, ⟨pl_open (inv_new hlim), by omega⟩, Slots.eq ⟨(by rfl), (by rfl), (by rfl), (by rfl), (by rfl), (by rfl), (by rfl),  trivial⟩, hS4⟩ ?_
    rintro m_ _ Hl0 ⟨i, X, t, r, va, vb, e0, rfl, ⟨hI, hi60⟩, rfl, hSl0⟩
    try clear hS4
    refine AW.seq ?_
    refine AW.seq ?_
    refine AW.region ?_
    refine OpsW.q rfl (q_move (v := .int _ _) rfl) ?_
    refine OpsW.q rfl (q_move (v := .slice _ _ _) rfl) ?_
    refine OpsW.q rfl (q_lenV Try.underlying31 rfl) ?_
    refine OpsW.q rfl (q_lss rfl rfl) ?_
    refine OpsW.qb rfl (q_move (v := .bool _) rfl) ?_
    intro b65 eb65
    refine OpsW.g rfl rfl rfl (fun hB => by simp only [Bool.and_eq_true, beq_iff_eq] at hB; obtain rfl := hB; exact (q_move (v := .int _ _) rfl)) ?_
    refine OpsW.g rfl rfl rfl (fun hB => by simp only [Bool.and_eq_true, beq_iff_eq] at hB; obtain rfl := hB; exact (q_lss rfl rfl)) ?_
    refine OpsW.q rfl (q_and2 rfl rfl rfl) ?_
    refine OpsW.nil ?_
    refine SeqP.go ?_
    refine AW.cond2 rfl (fun h3 => ?_) (fun h3 => ?_)
    ·
      try simp only [eb65, decide_eq_true_eq, decide_eq_false_iff_not, Bool.or_eq_true, Bool.and_eq_true, Bool.or_eq_false_iff, Bool.and_eq_false_imp, Bool.not_eq_true', Bool.not_eq_false', ne_eq, Decidable.not_not, Int.not_lt, Int.not_le, Bool.not_eq_true, Bool.not_eq_false] at h3
      refine AW.exit ?_
      refine SeqP.exit ?_
      refine LoopP.exit ?_
      refine BlockP.here ?_
      refine SeqP.go ?_
      refine AW.seq ?_
      refine AW.region ?_
      refine OpsW.q rfl (o_call rfl Try.func9 rfl rfl (awake_con)) ?_
      refine OpsW.q rfl (q_assign (v := .bool _) rfl) ?_
      refine OpsW.nil ?_
      refine SeqP.go ?_
      refine AW.ret ?_
      refine RetP.mk1 (H' := _) (v1 := .bool _) rfl rfl  hSl0.le ?_
      exact ⟨rfl, rfl⟩
    try simp only [eb65, decide_eq_true_eq, decide_eq_false_iff_not, Bool.or_eq_true, Bool.and_eq_true, Bool.or_eq_false_iff, Bool.and_eq_false_imp, Bool.not_eq_true', Bool.not_eq_false', ne_eq, Decidable.not_not, Int.not_lt, Int.not_le, Bool.not_eq_true, Bool.not_eq_false] at h3
    have hi : i < q ∧ i < 60 := by omega
    have hon := hob i hi.1
    have hop := hrops
    refine AW.skip ?_
    refine SeqP.go ?_
    refine AW.seq ?_
    refine AW.block ?_
    refine AW.seq ?_
    refine AW.region ?_
    refine OpsW.q rfl (q_move (v := .slice _ _ _) rfl) ?_
    refine OpsW.q rfl (q_move (v := .int _ _) rfl) ?_
    refine OpsW.q rfl (q_indexAddrR Try.underlying31 (by kernel_rfl) rfl rfl (by omega) (by omega) hrops) ?_
    refine OpsW.q rfl (q_loadR (sz := 5) (by kernel_rfl) rfl hrops (by omega)) ?_
    rw [Int.toNat_natCast]
    refine OpsW.m rfl (s_alloc (z := .agg #[.int .i64 0, .int .i64 0, .int .i64 0, S [], .bool false]) (cs := [.int .i64 0, .int .i64 0, .int .i64 0, S [], .bool false]) hSl0 (by kernel_rfl) rfl) ?_
    rintro _ H5 ⟨b16, rfl, hS5⟩
    clear hSl0
    refine OpsW.ms (s_storeS (n := 5) hS5 at0 (by kernel_rfl) rfl rfl rfl (ones_all rfl) rfl) ?_
    rintro _ H6 ⟨rfl, hS6⟩
    clear hS5
    refine OpsW.nil ?_
    refine SeqP.go ?_
    refine AW.seq ?_
    refine AW.seq ?_
    refine AW.region ?_
    refine OpsW.q rfl (q_fieldAddr (sz := 0) Try.underlying40 rfl (by kernel_rfl) rfl) ?_
    refine OpsW.q rfl (q_load (v := S _) (by kernel_rfl) rfl (hS6.blk at0) rfl) ?_
    refine OpsW.q rfl (q_lenS Try.underlying9 rfl) ?_
    refine OpsW.q rfl (q_gtr rfl rfl) ?_
    refine OpsW.nil ?_
    refine SeqP.go ?_
    refine AW.cond rfl (fun h4 => ?_) (fun h4 => ?_)
    ·
      try simp only [eb65, decide_eq_true_eq, decide_eq_false_iff_not, Bool.or_eq_true, Bool.and_eq_true, Bool.or_eq_false_iff, Bool.and_eq_false_imp, Bool.not_eq_true', Bool.not_eq_false', ne_eq, Decidable.not_not, Int.not_lt, Int.not_le, Bool.not_eq_true, Bool.not_eq_false] at h4
      refine AW.seq ?_
      refine AW.region ?_
      refine OpsW.q rfl (o_call rfl Try.func9 rfl rfl (awake_con)) ?_
      refine OpsW.q rfl (q_assign (v := .bool _) rfl) ?_
      refine OpsW.nil ?_
      refine SeqP.go ?_
      refine AW.ret ?_
      refine SeqP.ret ?_
      refine BlockP.ret ?_
      refine SeqP.ret ?_
      refine LoopP.ret ?_
      refine BlockP.ret ?_
      refine SeqP.ret ?_
      refine RetP.mk1 (H' := _) (v1 := .bool _) rfl rfl  hS6.le ?_
      exact ⟨rfl, rfl⟩
    try simp only [eb65, decide_eq_true_eq, decide_eq_false_iff_not, Bool.or_eq_true, Bool.and_eq_true, Bool.or_eq_false_iff, Bool.and_eq_false_imp, Bool.not_eq_true', Bool.not_eq_false', ne_eq, Decidable.not_not, Int.not_lt, Int.not_le, Bool.not_eq_true, Bool.not_eq_false] at h4
    have hdl : (o i).dat.length ≤ 9000 := by omega
    refine AW.skip ?_
    refine SeqP.go ?_
    refine AW.seq ?_
    refine AW.region ?_
    refine OpsW.q rfl (q_fieldAddr (sz := 0) Try.underlying40 rfl (by kernel_rfl) rfl) ?_
    refine OpsW.q rfl (q_load (v := .int _ _) (by kernel_rfl) rfl (hS6.blk at0) rfl) ?_
    refine OpsW.q rfl (o_call rfl Try.func16 rfl rfl (sender_con _)) ?_
    refine OpsW.q rfl (q_assign (v := S _) rfl) ?_
    refine OpsW.nil ?_
    refine SeqP.go ?_
    refine AW.cut (fun e_ H_ => ∃ (who : List UInt8) (e0 : Env), (who.length ≤ 1048576) ∧ e_ = upds e0 [(1, .slice rops q c), (2, S odd), (7, .pointer (some ⟨b30, 0, none⟩)), (9, .pointer (some ⟨b35, 0, none⟩)), (11, va), (13, vb), (15, .int .i64 (i : Int)), (16, .pointer (some ⟨b16, 0, none⟩)), (17, S who)] ∧ Sep H [.blk b16 ⟨[.int .i64 (o i).ask, .int .i64 (o i).who, .int .i64 (o i).n, S (o i).dat, .bool (o i).sp], 5, 40⟩, psAc va b30 X t, psBc vb b35 X r] H_) ?_ ?_
    ·
      refine AW.seq ?_
      refine AW.region ?_
      refine OpsW.q rfl (q_fieldAddr (sz := 0) Try.underlying40 rfl (by kernel_rfl) rfl) ?_
      refine OpsW.q rfl (q_load (v := .int _ _) (by kernel_rfl) rfl (hS6.blk at0) rfl) ?_
      refine OpsW.q rfl (q_gtr rfl rfl) ?_
      refine OpsW.nil ?_
      refine SeqP.go ?_
      refine AW.cond rfl (fun h5 => ?_) (fun h5 => ?_)
      ·
        try simp only [eb65, decide_eq_true_eq, decide_eq_false_iff_not, Bool.or_eq_true, Bool.and_eq_true, Bool.or_eq_false_iff, Bool.and_eq_false_imp, Bool.not_eq_true', Bool.not_eq_false', ne_eq, Decidable.not_not, Int.not_lt, Int.not_le, Bool.not_eq_true, Bool.not_eq_false] at h5
        refine AW.region ?_
        refine OpsW.q rfl (q_move (v := S _) rfl) ?_
        refine OpsW.q rfl (q_assign (v := S _) rfl) ?_
        refine OpsW.nil ?_
        exact CutP.go ⟨odd, _, hodd, Slots.eq ⟨(by rfl), (by rfl), (by rfl), (by rfl), (by rfl), (by rfl), (by rfl), (by rfl), (by rfl),  trivial⟩, hS6⟩
      try simp only [eb65, decide_eq_true_eq, decide_eq_false_iff_not, Bool.or_eq_true, Bool.and_eq_true, Bool.or_eq_false_iff, Bool.and_eq_false_imp, Bool.not_eq_true', Bool.not_eq_false', ne_eq, Decidable.not_not, Int.not_lt, Int.not_le, Bool.not_eq_true, Bool.not_eq_false] at h5
      refine AW.skip ?_
      exact CutP.go ⟨sndB (o i).who, _, (by rw [sndB_len]; omega), Slots.eq ⟨(by rfl), (by rfl), (by rfl), (by rfl), (by rfl), (by rfl), (by rfl), (by rfl), (by rfl),  trivial⟩, hS6⟩
    rintro _ Hc7 ⟨who, _, hwl, rfl, hSc7⟩
    try clear hS6
    refine AW.seq ?_
    refine AW.region ?_
    refine OpsW.q rfl (q_assign (v := .int _ _) rfl) ?_
    refine OpsW.nil ?_
    refine SeqP.go ?_
    refine AW.seq ?_
    refine AW.region ?_
    refine OpsW.q rfl (q_assign (v := .int _ _) rfl) ?_
    refine OpsW.nil ?_
    refine SeqP.go ?_
    refine AW.cut (fun e_ H_ => ∃ (t2 : TapeS) (r2 : RefS) (X2 : Option StF) (va2 vb2 : Value) (z : Int) (e0 : Env), (PlI (i + 1) X2 t2 r2) ∧ e_ = upds e0 [(1, .slice rops q c), (2, S odd), (7, .pointer (some ⟨b30, 0, none⟩)), (9, .pointer (some ⟨b35, 0, none⟩)), (11, va2), (13, vb2), (15, .int .i64 (i : Int)), (17, S who), (18, .int .i64 z), (19, .int .i64 z)] ∧ Sep H [psAc va2 b30 X2 t2, psBc vb2 b35 X2 r2] H_) ?_ ?_
    ·
      refine AW.seq ?_
      refine AW.region ?_
      refine OpsW.q rfl (q_fieldAddr (sz := 0) Try.underlying40 rfl (by kernel_rfl) rfl) ?_
      refine OpsW.q rfl (q_load (v := .int _ _) (by kernel_rfl) rfl (hSc7.blk at0) rfl) ?_
      refine OpsW.q rfl (q_eql rfl rfl) ?_
      refine OpsW.nil ?_
      refine SeqP.go ?_
      refine AW.cond rfl (fun h6 => ?_) (fun h6 => ?_)
      ·
        try simp only [eb65, decide_eq_true_eq, decide_eq_false_iff_not, Bool.or_eq_true, Bool.and_eq_true, Bool.or_eq_false_iff, Bool.and_eq_false_imp, Bool.not_eq_true', Bool.not_eq_false', ne_eq, Decidable.not_not, Int.not_lt, Int.not_le, Bool.not_eq_true, Bool.not_eq_false] at h6
        refine AW.seq ?_
        rcases hX : X with _ | x
        ·
          obtain rfl := psA_no hSc7 at1 hX
          obtain rfl := psB_no hSc7 at2 hX
          subst hX
          refine AW.region ?_
          refine OpsW.q rfl (q_move (v := .pointer _) rfl) ?_
          refine OpsW.q rfl (q_neqP Try.underlying62 rfl rfl) ?_
          refine OpsW.nil ?_
          refine SeqP.go ?_
          refine AW.cond rfl (fun h7 => ?_) (fun h7 => ?_)
          ·
            exfalso
            try simp only [eb65, decide_eq_true_eq, decide_eq_false_iff_not, Bool.or_eq_true, Bool.and_eq_true, Bool.or_eq_false_iff, Bool.and_eq_false_imp, Bool.not_eq_true', Bool.not_eq_false', ne_eq, Decidable.not_not, Int.not_lt, Int.not_le, Bool.not_eq_true, Bool.not_eq_false] at h7
            first | contradiction | (simp at *; done) | simp_all
          try simp only [eb65, decide_eq_true_eq, decide_eq_false_iff_not, Bool.or_eq_true, Bool.and_eq_true, Bool.or_eq_false_iff, Bool.and_eq_false_imp, Bool.not_eq_true', Bool.not_eq_false', ne_eq, Decidable.not_not, Int.not_lt, Int.not_le, Bool.not_eq_true, Bool.not_eq_false] at h7
          refine AW.skip ?_
          replace hSc7 := hSc7.del del0
          exact CutP.go ⟨_, _, _, _, _, _, _, (pl_same hI hI.1), Slots.eq ⟨(by rfl), (by rfl), (by rfl), (by rfl), (by rfl), (by rfl), (by rfl), (by rfl), (by rfl), (by rfl),  trivial⟩, hSc7⟩
        ·
          obtain ⟨ba, rfl⟩ := psA_is hSc7 at1 hX
          obtain ⟨bb, rfl⟩ := psB_is hSc7 at2 hX
          subst hX
          refine AW.region ?_
          refine OpsW.q rfl (q_move (v := .pointer _) rfl) ?_
          refine OpsW.q rfl (q_neqP Try.underlying62 rfl rfl) ?_
          refine OpsW.nil ?_
          refine SeqP.go ?_
          refine AW.cond rfl (fun h7 => ?_) (fun h7 => ?_)
          ·
            try simp only [eb65, decide_eq_true_eq, decide_eq_false_iff_not, Bool.or_eq_true, Bool.and_eq_true, Bool.or_eq_false_iff, Bool.and_eq_false_imp, Bool.not_eq_true', Bool.not_eq_false', ne_eq, Decidable.not_not, Int.not_lt, Int.not_le, Bool.not_eq_true, Bool.not_eq_false] at h7
            refine AW.seq ?_
            refine AW.region ?_
            refine OpsW.q rfl (q_move (v := .pointer _) rfl) ?_
            refine OpsW.q rfl (q_move (v := S _) rfl) ?_
            refine OpsW.q rfl (q_fieldAddr (sz := 0) Try.underlying40 rfl (by kernel_rfl) rfl) ?_
            refine OpsW.q rfl (q_load (v := .int _ _) (by kernel_rfl) rfl (hSc7.blk at0) rfl) ?_
            refine OpsW.q rfl (q_fieldAddr (sz := 0) Try.underlying40 rfl (by kernel_rfl) rfl) ?_
            refine OpsW.q rfl (q_load (v := S _) (by kernel_rfl) rfl (hSc7.blk at0) rfl) ?_
            refine OpsW.q rfl (q_build (cells := #[.int .i64 (o i).n, S (o i).dat]) rfl (by kernel_rfl)) ?_
            obtain ⟨Hf8, le8, hA8, hB8⟩ := hSc7.framed at1
            refine OpsW.m rfl (o_call rfl Try.func17 rfl rfl (Add_A hA8 (hI.2 x rfl).ok hI.1.2.1 (by have := (hI.2 x rfl).len; omega) (hI.2 x rfl).hh)) ?_
            rintro _ H8 ⟨rfl, hR8⟩
            have hS8 := hB8 _ _ hR8
            clear hR8 hB8 hA8
            clear hSc7
            refine OpsW.q rfl (q_assign (v := .int _ _) rfl) ?_
            refine OpsW.nil ?_
            refine SeqP.go ?_
            refine AW.region ?_
            refine OpsW.q rfl (q_move (v := .pointer _) rfl) ?_
            refine OpsW.q rfl (q_move (v := S _) rfl) ?_
            refine OpsW.q rfl (q_fieldAddr (sz := 0) Try.underlying40 rfl (by kernel_rfl) rfl) ?_
            refine OpsW.q rfl (q_load (v := .int _ _) (by kernel_rfl) rfl (hS8.blk at0) rfl) ?_
            refine OpsW.q rfl (q_fieldAddr (sz := 0) Try.underlying40 rfl (by kernel_rfl) rfl) ?_
            refine OpsW.q rfl (q_load (v := S _) (by kernel_rfl) rfl (hS8.blk at0) rfl) ?_
            refine OpsW.q rfl (q_build (cells := #[.int .i64 (o i).n, S (o i).dat]) rfl (by kernel_rfl)) ?_
            obtain ⟨Hf9, le9, hA9, hB9⟩ := hS8.framed at2
            refine OpsW.m rfl (o_call rfl Try.func27 rfl rfl (Add_B hA9 (hI.2 x rfl).ok hI.1.ref (fun d => (inv_append hI.1 d).2.ref) (by have := (hI.2 x rfl).len; omega) (hI.2 x rfl).hh (add_sim hI.1).2.1)) ?_
            rintro _ H9 ⟨rfl, hR9⟩
            have hS9 := hB9 _ _ hR9
            clear hR9 hB9 hA9
            clear hS8
            rw [(add_sim hI.1).1]
            refine OpsW.q rfl (q_assign (v := .int _ _) rfl) ?_
            refine OpsW.nil ?_
            replace hS9 := hS9.del del0
            exact CutP.go ⟨_, _, _, _, _, _, _, (pl_add hI), Slots.eq ⟨(by rfl), (by rfl), (by rfl), (by rfl), (by rfl), (by rfl), (by rfl), (by rfl), (by rfl), (by rfl),  trivial⟩, hS9⟩
          exfalso
          try simp only [eb65, decide_eq_true_eq, decide_eq_false_iff_not, Bool.or_eq_true, Bool.and_eq_true, Bool.or_eq_false_iff, Bool.and_eq_false_imp, Bool.not_eq_true', Bool.not_eq_false', ne_eq, Decidable.not_not, Int.not_lt, Int.not_le, Bool.not_eq_true, Bool.not_eq_false] at h7
          first | contradiction | (simp at *; done) | simp_all
      try simp only [eb65, decide_eq_true_eq, decide_eq_false_iff_not, Bool.or_eq_true, Bool.and_eq_true, Bool.or_eq_false_iff, Bool.and_eq_false_imp, Bool.not_eq_true', Bool.not_eq_false', ne_eq, Decidable.not_not, Int.not_lt, Int.not_le, Bool.not_eq_true, Bool.not_eq_false] at h6
      refine AW.seq ?_
      refine AW.region ?_
      refine OpsW.q rfl (q_fieldAddr (sz := 0) Try.underlying40 rfl (by kernel_rfl) rfl) ?_
      refine OpsW.q rfl (q_load (v := .int _ _) (by kernel_rfl) rfl (hSc7.blk at0) rfl) ?_
      refine OpsW.q rfl (q_eql rfl rfl) ?_
      refine OpsW.nil ?_
      refine SeqP.go ?_
      refine AW.cond rfl (fun h8 => ?_) (fun h8 => ?_)
      ·
        try simp only [eb65, decide_eq_true_eq, decide_eq_false_iff_not, Bool.or_eq_true, Bool.and_eq_true, Bool.or_eq_false_iff, Bool.and_eq_false_imp, Bool.not_eq_true', Bool.not_eq_false', ne_eq, Decidable.not_not, Int.not_lt, Int.not_le, Bool.not_eq_true, Bool.not_eq_false] at h8
        refine AW.seq ?_
        refine AW.region ?_
        refine OpsW.q rfl (q_move (v := .pointer _) rfl) ?_
        refine OpsW.q rfl (q_fieldAddr (sz := 0) Try.underlying40 rfl (by kernel_rfl) rfl) ?_
        refine OpsW.q rfl (q_load (v := .int _ _) (by kernel_rfl) rfl (hSc7.blk at0) rfl) ?_
        obtain ⟨Hf10, le10, hA10, hB10⟩ := hSc7.framed at1
        refine OpsW.m rfl (o_call rfl Try.func21 rfl rfl (Arm_A hA10)) ?_
        rintro _ H10 ⟨rfl, hR10⟩
        have hS10 := hB10 _ _ hR10
        clear hR10 hB10 hA10
        clear hSc7
        refine OpsW.nil ?_
        refine SeqP.go ?_
        refine AW.region ?_
        refine OpsW.q rfl (q_move (v := .pointer _) rfl) ?_
        refine OpsW.q rfl (q_fieldAddr (sz := 0) Try.underlying40 rfl (by kernel_rfl) rfl) ?_
        refine OpsW.q rfl (q_load (v := .int _ _) (by kernel_rfl) rfl (hS10.blk at0) rfl) ?_
        obtain ⟨Hf11, le11, hA11, hB11⟩ := hS10.framed at2
        refine OpsW.m rfl (o_call rfl Try.func28 rfl rfl (Arm_B hA11 hI.1.ref)) ?_
        rintro _ H11 ⟨rfl, hR11⟩
        have hS11 := hB11 _ _ hR11
        clear hR11 hB11 hA11
        clear hS10
        refine OpsW.nil ?_
        replace hS11 := hS11.del del0
        exact CutP.go ⟨_, _, _, _, _, _, _, (pl_same hI (inv_arm hI.1 hon.2)), Slots.eq ⟨(by rfl), (by rfl), (by rfl), (by rfl), (by rfl), (by rfl), (by rfl), (by rfl), (by rfl), (by rfl),  trivial⟩, hS11⟩
      try simp only [eb65, decide_eq_true_eq, decide_eq_false_iff_not, Bool.or_eq_true, Bool.and_eq_true, Bool.or_eq_false_iff, Bool.and_eq_false_imp, Bool.not_eq_true', Bool.not_eq_false', ne_eq, Decidable.not_not, Int.not_lt, Int.not_le, Bool.not_eq_true, Bool.not_eq_false] at h8
      refine AW.cut (fun e_ H_ => ∃ (t1 : TapeS) (r1 : RefS) (e0 : Env), (Inv t1 r1) ∧ e_ = upds e0 [(1, .slice rops q c), (2, S odd), (7, .pointer (some ⟨b30, 0, none⟩)), (9, .pointer (some ⟨b35, 0, none⟩)), (11, va), (13, vb), (15, .int .i64 (i : Int)), (17, S who), (18, .int .i64 0), (19, .int .i64 0)] ∧ Sep H [psAc va b30 X t1, psBc vb b35 X r1] H_) ?_ ?_
      ·
        refine AW.seq ?_
        refine AW.region ?_
        refine OpsW.q rfl (q_fieldAddr (sz := 0) Try.underlying40 rfl (by kernel_rfl) rfl) ?_
        refine OpsW.q rfl (q_load (v := .int _ _) (by kernel_rfl) rfl (hSc7.blk at0) rfl) ?_
        refine OpsW.q rfl (q_eql rfl rfl) ?_
        refine OpsW.nil ?_
        refine SeqP.go ?_
        refine AW.cond rfl (fun h9 => ?_) (fun h9 => ?_)
        ·
          try simp only [eb65, decide_eq_true_eq, decide_eq_false_iff_not, Bool.or_eq_true, Bool.and_eq_true, Bool.or_eq_false_iff, Bool.and_eq_false_imp, Bool.not_eq_true', Bool.not_eq_false', ne_eq, Decidable.not_not, Int.not_lt, Int.not_le, Bool.not_eq_true, Bool.not_eq_false] at h9
          refine AW.seq ?_
          refine AW.region ?_
          refine OpsW.q rfl (q_move (v := .pointer _) rfl) ?_
          refine OpsW.q rfl (q_fieldAddr (sz := 0) Try.underlying40 rfl (by kernel_rfl) rfl) ?_
          refine OpsW.q rfl (q_load (v := .int _ _) (by kernel_rfl) rfl (hSc7.blk at0) rfl) ?_
          refine OpsW.q rfl (q_fieldAddr (sz := 0) Try.underlying40 rfl (by kernel_rfl) rfl) ?_
          refine OpsW.q rfl (q_load (v := .bool _) (by kernel_rfl) rfl (hSc7.blk at0) rfl) ?_
          obtain ⟨Hf12, le12, hA12, hB12⟩ := hSc7.framed at1
          refine OpsW.m rfl (o_call rfl Try.func22 rfl rfl (Crash_A hA12 hI.1.2.1)) ?_
          rintro _ H12 ⟨rfl, hR12⟩
          have hS12 := hB12 _ _ hR12
          clear hR12 hB12 hA12
          clear hSc7
          refine OpsW.nil ?_
          refine SeqP.go ?_
          refine AW.region ?_
          refine OpsW.q rfl (q_move (v := .pointer _) rfl) ?_
          refine OpsW.q rfl (q_fieldAddr (sz := 0) Try.underlying40 rfl (by kernel_rfl) rfl) ?_
          refine OpsW.q rfl (q_load (v := .int _ _) (by kernel_rfl) rfl (hS12.blk at0) rfl) ?_
          refine OpsW.q rfl (q_fieldAddr (sz := 0) Try.underlying40 rfl (by kernel_rfl) rfl) ?_
          refine OpsW.q rfl (q_load (v := .bool _) (by kernel_rfl) rfl (hS12.blk at0) rfl) ?_
          obtain ⟨Hf13, le13, hA13, hB13⟩ := hS12.framed at2
          refine OpsW.m rfl (o_call rfl Try.func29 rfl rfl (Crash_B hA13 hI.1.ref)) ?_
          rintro _ H13 ⟨rfl, hR13⟩
          have hS13 := hB13 _ _ hR13
          clear hR13 hB13 hA13
          clear hS12
          refine OpsW.nil ?_
          replace hS13 := hS13.del del0
          exact CutP.go ⟨_, _, _, (inv_crash hI.1 (o i).n (o i).sp), Slots.eq ⟨(by rfl), (by rfl), (by rfl), (by rfl), (by rfl), (by rfl), (by rfl), (by rfl), (by rfl), (by rfl),  trivial⟩, hS13⟩
        try simp only [eb65, decide_eq_true_eq, decide_eq_false_iff_not, Bool.or_eq_true, Bool.and_eq_true, Bool.or_eq_false_iff, Bool.and_eq_false_imp, Bool.not_eq_true', Bool.not_eq_false', ne_eq, Decidable.not_not, Int.not_lt, Int.not_le, Bool.not_eq_true, Bool.not_eq_false] at h9
        refine AW.seq ?_
        refine AW.region ?_
        refine OpsW.q rfl (q_fieldAddr (sz := 0) Try.underlying40 rfl (by kernel_rfl) rfl) ?_
        refine OpsW.q rfl (q_load (v := S _) (by kernel_rfl) rfl (hSc7.blk at0) rfl) ?_
        refine OpsW.q rfl (q_assign (v := S _) rfl) ?_
        refine OpsW.nil ?_
        refine SeqP.go ?_
        refine AW.cut (fun e_ H_ => ∃ (inn : List UInt8) (e0 : Env), (inn.length ≤ 2000000) ∧ e_ = upds e0 [(1, .slice rops q c), (2, S odd), (7, .pointer (some ⟨b30, 0, none⟩)), (9, .pointer (some ⟨b35, 0, none⟩)), (11, va), (13, vb), (15, .int .i64 (i : Int)), (17, S who), (18, .int .i64 0), (19, .int .i64 0), (20, S inn)] ∧ Sep H [.blk b16 ⟨[.int .i64 (o i).ask, .int .i64 (o i).who, .int .i64 (o i).n, S (o i).dat, .bool (o i).sp], 5, 40⟩, psAc va b30 X t, psBc vb b35 X r] H_) ?_ ?_
        ·
          refine AW.seq ?_
          rcases hX : X with _ | x
          ·
            obtain rfl := psA_no hSc7 at1 hX
            obtain rfl := psB_no hSc7 at2 hX
            subst hX
            refine AW.region ?_
            refine OpsW.q rfl (q_fieldAddr (sz := 0) Try.underlying40 rfl (by kernel_rfl) rfl) ?_
            refine OpsW.q rfl (q_load (v := .int _ _) (by kernel_rfl) rfl (hSc7.blk at0) rfl) ?_
            refine OpsW.q rfl (q_eql rfl rfl) ?_
            refine OpsW.qb rfl (q_move (v := .bool _) rfl) ?_
            intro b139 eb139
            refine OpsW.g rfl rfl rfl (fun hB => by simp only [Bool.and_eq_true, beq_iff_eq] at hB; obtain rfl := hB; exact (q_move (v := .pointer _) rfl)) ?_
            refine OpsW.g rfl rfl rfl (fun hB => by simp only [Bool.and_eq_true, beq_iff_eq] at hB; obtain rfl := hB; exact (q_neqP Try.underlying62 rfl rfl)) ?_
            refine OpsW.q rfl (q_and2 rfl rfl rfl) ?_
            refine OpsW.nil ?_
            refine SeqP.go ?_
            refine AW.cond rfl (fun h10 => ?_) (fun h10 => ?_)
            ·
              exfalso
              try simp only [eb65, eb139, decide_eq_true_eq, decide_eq_false_iff_not, Bool.or_eq_true, Bool.and_eq_true, Bool.or_eq_false_iff, Bool.and_eq_false_imp, Bool.not_eq_true', Bool.not_eq_false', ne_eq, Decidable.not_not, Int.not_lt, Int.not_le, Bool.not_eq_true, Bool.not_eq_false] at h10
              first | contradiction | (simp at *; done) | simp_all
            try simp only [eb65, eb139, decide_eq_true_eq, decide_eq_false_iff_not, Bool.or_eq_true, Bool.and_eq_true, Bool.or_eq_false_iff, Bool.and_eq_false_imp, Bool.not_eq_true', Bool.not_eq_false', ne_eq, Decidable.not_not, Int.not_lt, Int.not_le, Bool.not_eq_true, Bool.not_eq_false] at h10
            refine AW.skip ?_
            exact CutP.go ⟨(o i).dat, _, (by omega), Slots.eq ⟨(by rfl), (by rfl), (by rfl), (by rfl), (by rfl), (by rfl), (by rfl), (by rfl), (by rfl), (by rfl), (by rfl),  trivial⟩, hSc7⟩
          ·
            obtain ⟨ba, rfl⟩ := psA_is hSc7 at1 hX
            obtain ⟨bb, rfl⟩ := psB_is hSc7 at2 hX
            subst hX
            refine AW.region ?_
            refine OpsW.q rfl (q_fieldAddr (sz := 0) Try.underlying40 rfl (by kernel_rfl) rfl) ?_
            refine OpsW.q rfl (q_load (v := .int _ _) (by kernel_rfl) rfl (hSc7.blk at0) rfl) ?_
            refine OpsW.q rfl (q_eql rfl rfl) ?_
            refine OpsW.qb rfl (q_move (v := .bool _) rfl) ?_
            intro b139 eb139
            refine OpsW.g rfl rfl rfl (fun hB => by simp only [Bool.and_eq_true, beq_iff_eq] at hB; obtain rfl := hB; exact (q_move (v := .pointer _) rfl)) ?_
            refine OpsW.g rfl rfl rfl (fun hB => by simp only [Bool.and_eq_true, beq_iff_eq] at hB; obtain rfl := hB; exact (q_neqP Try.underlying62 rfl rfl)) ?_
            refine OpsW.q rfl (q_and2 rfl rfl rfl) ?_
            refine OpsW.nil ?_
            refine SeqP.go ?_
            refine AW.cond rfl (fun h10 => ?_) (fun h10 => ?_)
            ·
              try simp only [eb65, eb139, decide_eq_true_eq, decide_eq_false_iff_not, Bool.or_eq_true, Bool.and_eq_true, Bool.or_eq_false_iff, Bool.and_eq_false_imp, Bool.not_eq_true', Bool.not_eq_false', ne_eq, Decidable.not_not, Int.not_lt, Int.not_le, Bool.not_eq_true, Bool.not_eq_false] at h10
              refine AW.steps rfl 15 rfl ?_
              refine AnyW.first 0 rfl (by kernel_rfl) (by kernel_rfl) (by kernel_rfl) rfl (dst_lt rfl) (v_move (v := .pointer _) rfl) ?_
              refine AnyW.first 1 rfl (by kernel_rfl) (by kernel_rfl) (by kernel_rfl) rfl (dst_lt rfl) (v_nilCheck rfl) ?_
              refine AnyW.first 2 rfl (by kernel_rfl) (by kernel_rfl) (by kernel_rfl) rfl (dst_lt rfl) (v_fieldAddr (sz := 0) Try.underlying69 rfl (by kernel_rfl) rfl) ?_
              refine AnyW.first 4 rfl (by kernel_rfl) (by kernel_rfl) (by kernel_rfl) rfl (dst_lt rfl) (v_move (v := S _) rfl) ?_
              refine AnyW.first 5 rfl (by kernel_rfl) (by kernel_rfl) (by kernel_rfl) rfl (dst_lt rfl) (v_fieldAddr (sz := 0) Try.underlying40 rfl (by kernel_rfl) rfl) ?_
              refine AnyW.first 7 rfl (by kernel_rfl) (by kernel_rfl) (by kernel_rfl) rfl (dst_lt rfl) (v_fieldAddr (sz := 0) Try.underlying40 rfl (by kernel_rfl) rfl) ?_
              refine AnyW.three 3 6 8 rfl rfl rfl (by kernel_rfl) rfl rfl rfl (dst_lt rfl) (dst_lt rfl) (dst_lt rfl) (q_load (v := S x.st.h) (by kernel_rfl) rfl (psB_blk hSc7 at2).choose_spec rfl) (q_load (v := .int _ _) (by kernel_rfl) rfl (hSc7.blk at0) rfl) (q_load (v := S _) (by kernel_rfl) rfl (hSc7.blk at0) rfl) ?_ ?_ ?_
              ·
                rintro _ _ ⟨rfl, rfl⟩
                refine AnyW.two 6 8 rfl rfl (by kernel_rfl) rfl rfl (dst_lt rfl) (dst_lt rfl) (q_load (v := .int _ _) (by kernel_rfl) rfl (hSc7.blk at0) rfl) (q_load (v := S _) (by kernel_rfl) rfl (hSc7.blk at0) rfl) ?_ ?_
                ·
                  rintro _ _ ⟨rfl, rfl⟩
                  refine AnyW.onlyQ 8 rfl (by kernel_rfl) rfl (dst_lt rfl) (q_load (v := S _) (by kernel_rfl) rfl (hSc7.blk at0) rfl) ?_
                  refine AnyW.onlyQ 9 rfl (by kernel_rfl) rfl (dst_lt rfl) (q_build (cells := #[.int .i64 (o i).n, S (o i).dat]) rfl (by kernel_rfl)) ?_
                  refine AnyW.onlyQ 10 rfl (by kernel_rfl) rfl (dst_lt rfl) (o_call rfl Try.func30 rfl rfl (FrameS_con (by have := (hI.2 x rfl).hh; omega) (by omega) (by omega))) ?_
                  refine AnyW.onlyQ 11 rfl (by kernel_rfl) rfl (dst_lt rfl) (q_move (v := .tuple _) rfl) ?_
                  refine AnyW.first 12 rfl (by kernel_rfl) (by kernel_rfl) (by kernel_rfl) rfl (dst_lt rfl) (v_extract (v := S _) rfl rfl) ?_
                  refine AnyW.first 13 rfl (by kernel_rfl) (by kernel_rfl) (by kernel_rfl) rfl (dst_lt rfl) (v_extract (v := S _) rfl rfl) ?_
                  refine AnyW.onlyQ 14 rfl (by kernel_rfl) rfl (dst_lt rfl) (q_assign (v := S _) rfl) ?_
                  refine AnyW.done (by kernel_rfl) ?_
                  exact CutP.go ⟨frS x.st.h (bodyS who (o i).n (o i).dat), _, (by rw [frS_len, bodyS_len]; omega), Slots.eq ⟨(by rfl), (by rfl), (by rfl), (by rfl), (by rfl), (by rfl), (by rfl), (by rfl), (by rfl), (by rfl), (by rfl),  trivial⟩, hSc7⟩
                ·
                  rintro _ _ ⟨rfl, rfl⟩
                  refine AnyW.onlyQ 6 rfl (by kernel_rfl) rfl (dst_lt rfl) (q_load (v := .int _ _) (by kernel_rfl) rfl (hSc7.blk at0) rfl) ?_
                  refine AnyW.onlyQ 9 rfl (by kernel_rfl) rfl (dst_lt rfl) (q_build (cells := #[.int .i64 (o i).n, S (o i).dat]) rfl (by kernel_rfl)) ?_
                  refine AnyW.onlyQ 10 rfl (by kernel_rfl) rfl (dst_lt rfl) (o_call rfl Try.func30 rfl rfl (FrameS_con (by have := (hI.2 x rfl).hh; omega) (by omega) (by omega))) ?_
                  refine AnyW.onlyQ 11 rfl (by kernel_rfl) rfl (dst_lt rfl) (q_move (v := .tuple _) rfl) ?_
                  refine AnyW.first 12 rfl (by kernel_rfl) (by kernel_rfl) (by kernel_rfl) rfl (dst_lt rfl) (v_extract (v := S _) rfl rfl) ?_
                  refine AnyW.first 13 rfl (by kernel_rfl) (by kernel_rfl) (by kernel_rfl) rfl (dst_lt rfl) (v_extract (v := S _) rfl rfl) ?_
                  refine AnyW.onlyQ 14 rfl (by kernel_rfl) rfl (dst_lt rfl) (q_assign (v := S _) rfl) ?_
                  refine AnyW.done (by kernel_rfl) ?_
                  exact CutP.go ⟨frS x.st.h (bodyS who (o i).n (o i).dat), _, (by rw [frS_len, bodyS_len]; omega), Slots.eq ⟨(by rfl), (by rfl), (by rfl), (by rfl), (by rfl), (by rfl), (by rfl), (by rfl), (by rfl), (by rfl), (by rfl),  trivial⟩, hSc7⟩
              ·
                rintro _ _ ⟨rfl, rfl⟩
                refine AnyW.two 3 8 rfl rfl (by kernel_rfl) rfl rfl (dst_lt rfl) (dst_lt rfl) (q_load (v := S x.st.h) (by kernel_rfl) rfl (psB_blk hSc7 at2).choose_spec rfl) (q_load (v := S _) (by kernel_rfl) rfl (hSc7.blk at0) rfl) ?_ ?_
                ·
                  rintro _ _ ⟨rfl, rfl⟩
                  refine AnyW.onlyQ 8 rfl (by kernel_rfl) rfl (dst_lt rfl) (q_load (v := S _) (by kernel_rfl) rfl (hSc7.blk at0) rfl) ?_
                  refine AnyW.onlyQ 9 rfl (by kernel_rfl) rfl (dst_lt rfl) (q_build (cells := #[.int .i64 (o i).n, S (o i).dat]) rfl (by kernel_rfl)) ?_
                  refine AnyW.onlyQ 10 rfl (by kernel_rfl) rfl (dst_lt rfl) (o_call rfl Try.func30 rfl rfl (FrameS_con (by have := (hI.2 x rfl).hh; omega) (by omega) (by omega))) ?_
                  refine AnyW.onlyQ 11 rfl (by kernel_rfl) rfl (dst_lt rfl) (q_move (v := .tuple _) rfl) ?_
                  refine AnyW.first 12 rfl (by kernel_rfl) (by kernel_rfl) (by kernel_rfl) rfl (dst_lt rfl) (v_extract (v := S _) rfl rfl) ?_
                  refine AnyW.first 13 rfl (by kernel_rfl) (by kernel_rfl) (by kernel_rfl) rfl (dst_lt rfl) (v_extract (v := S _) rfl rfl) ?_
                  refine AnyW.onlyQ 14 rfl (by kernel_rfl) rfl (dst_lt rfl) (q_assign (v := S _) rfl) ?_
                  refine AnyW.done (by kernel_rfl) ?_
                  exact CutP.go ⟨frS x.st.h (bodyS who (o i).n (o i).dat), _, (by rw [frS_len, bodyS_len]; omega), Slots.eq ⟨(by rfl), (by rfl), (by rfl), (by rfl), (by rfl), (by rfl), (by rfl), (by rfl), (by rfl), (by rfl), (by rfl),  trivial⟩, hSc7⟩
                ·
                  rintro _ _ ⟨rfl, rfl⟩
                  refine AnyW.first 9 rfl (by kernel_rfl) (by kernel_rfl) (by kernel_rfl) rfl (dst_lt rfl) (v_build (cells := #[.int .i64 (o i).n, S (o i).dat]) rfl (by kernel_rfl)) ?_
                  refine AnyW.onlyQ 3 rfl (by kernel_rfl) rfl (dst_lt rfl) (q_load (v := S x.st.h) (by kernel_rfl) rfl (psB_blk hSc7 at2).choose_spec rfl) ?_
                  refine AnyW.onlyQ 10 rfl (by kernel_rfl) rfl (dst_lt rfl) (o_call rfl Try.func30 rfl rfl (FrameS_con (by have := (hI.2 x rfl).hh; omega) (by omega) (by omega))) ?_
                  refine AnyW.onlyQ 11 rfl (by kernel_rfl) rfl (dst_lt rfl) (q_move (v := .tuple _) rfl) ?_
                  refine AnyW.first 12 rfl (by kernel_rfl) (by kernel_rfl) (by kernel_rfl) rfl (dst_lt rfl) (v_extract (v := S _) rfl rfl) ?_
                  refine AnyW.first 13 rfl (by kernel_rfl) (by kernel_rfl) (by kernel_rfl) rfl (dst_lt rfl) (v_extract (v := S _) rfl rfl) ?_
                  refine AnyW.onlyQ 14 rfl (by kernel_rfl) rfl (dst_lt rfl) (q_assign (v := S _) rfl) ?_
                  refine AnyW.done (by kernel_rfl) ?_
                  exact CutP.go ⟨frS x.st.h (bodyS who (o i).n (o i).dat), _, (by rw [frS_len, bodyS_len]; omega), Slots.eq ⟨(by rfl), (by rfl), (by rfl), (by rfl), (by rfl), (by rfl), (by rfl), (by rfl), (by rfl), (by rfl), (by rfl),  trivial⟩, hSc7⟩
              ·
                rintro _ _ ⟨rfl, rfl⟩
                refine AnyW.two 3 6 rfl rfl (by kernel_rfl) rfl rfl (dst_lt rfl) (dst_lt rfl) (q_load (v := S x.st.h) (by kernel_rfl) rfl (psB_blk hSc7 at2).choose_spec rfl) (q_load (v := .int _ _) (by kernel_rfl) rfl (hSc7.blk at0) rfl) ?_ ?_
                ·
                  rintro _ _ ⟨rfl, rfl⟩
                  refine AnyW.onlyQ 6 rfl (by kernel_rfl) rfl (dst_lt rfl) (q_load (v := .int _ _) (by kernel_rfl) rfl (hSc7.blk at0) rfl) ?_
                  refine AnyW.onlyQ 9 rfl (by kernel_rfl) rfl (dst_lt rfl) (q_build (cells := #[.int .i64 (o i).n, S (o i).dat]) rfl (by kernel_rfl)) ?_
                  refine AnyW.onlyQ 10 rfl (by kernel_rfl) rfl (dst_lt rfl) (o_call rfl Try.func30 rfl rfl (FrameS_con (by have := (hI.2 x rfl).hh; omega) (by omega) (by omega))) ?_
                  refine AnyW.onlyQ 11 rfl (by kernel_rfl) rfl (dst_lt rfl) (q_move (v := .tuple _) rfl) ?_
                  refine AnyW.first 12 rfl (by kernel_rfl) (by kernel_rfl) (by kernel_rfl) rfl (dst_lt rfl) (v_extract (v := S _) rfl rfl) ?_
                  refine AnyW.first 13 rfl (by kernel_rfl) (by kernel_rfl) (by kernel_rfl) rfl (dst_lt rfl) (v_extract (v := S _) rfl rfl) ?_
                  refine AnyW.onlyQ 14 rfl (by kernel_rfl) rfl (dst_lt rfl) (q_assign (v := S _) rfl) ?_
                  refine AnyW.done (by kernel_rfl) ?_
                  exact CutP.go ⟨frS x.st.h (bodyS who (o i).n (o i).dat), _, (by rw [frS_len, bodyS_len]; omega), Slots.eq ⟨(by rfl), (by rfl), (by rfl), (by rfl), (by rfl), (by rfl), (by rfl), (by rfl), (by rfl), (by rfl), (by rfl),  trivial⟩, hSc7⟩
                ·
                  rintro _ _ ⟨rfl, rfl⟩
                  refine AnyW.first 9 rfl (by kernel_rfl) (by kernel_rfl) (by kernel_rfl) rfl (dst_lt rfl) (v_build (cells := #[.int .i64 (o i).n, S (o i).dat]) rfl (by kernel_rfl)) ?_
                  refine AnyW.onlyQ 3 rfl (by kernel_rfl) rfl (dst_lt rfl) (q_load (v := S x.st.h) (by kernel_rfl) rfl (psB_blk hSc7 at2).choose_spec rfl) ?_
                  refine AnyW.onlyQ 10 rfl (by kernel_rfl) rfl (dst_lt rfl) (o_call rfl Try.func30 rfl rfl (FrameS_con (by have := (hI.2 x rfl).hh; omega) (by omega) (by omega))) ?_
                  refine AnyW.onlyQ 11 rfl (by kernel_rfl) rfl (dst_lt rfl) (q_move (v := .tuple _) rfl) ?_
                  refine AnyW.first 12 rfl (by kernel_rfl) (by kernel_rfl) (by kernel_rfl) rfl (dst_lt rfl) (v_extract (v := S _) rfl rfl) ?_
                  refine AnyW.first 13 rfl (by kernel_rfl) (by kernel_rfl) (by kernel_rfl) rfl (dst_lt rfl) (v_extract (v := S _) rfl rfl) ?_
                  refine AnyW.onlyQ 14 rfl (by kernel_rfl) rfl (dst_lt rfl) (q_assign (v := S _) rfl) ?_
                  refine AnyW.done (by kernel_rfl) ?_
                  exact CutP.go ⟨frS x.st.h (bodyS who (o i).n (o i).dat), _, (by rw [frS_len, bodyS_len]; omega), Slots.eq ⟨(by rfl), (by rfl), (by rfl), (by rfl), (by rfl), (by rfl), (by rfl), (by rfl), (by rfl), (by rfl), (by rfl),  trivial⟩, hSc7⟩
            try simp only [eb65, eb139, decide_eq_true_eq, decide_eq_false_iff_not, Bool.or_eq_true, Bool.and_eq_true, Bool.or_eq_false_iff, Bool.and_eq_false_imp, Bool.not_eq_true', Bool.not_eq_false', ne_eq, Decidable.not_not, Int.not_lt, Int.not_le, Bool.not_eq_true, Bool.not_eq_false] at h10
            refine AW.skip ?_
            exact CutP.go ⟨(o i).dat, _, (by omega), Slots.eq ⟨(by rfl), (by rfl), (by rfl), (by rfl), (by rfl), (by rfl), (by rfl), (by rfl), (by rfl), (by rfl), (by rfl),  trivial⟩, hSc7⟩
        rintro _ Hc14 ⟨inn, _, hin, rfl, hSc14⟩
        try clear hSc7
        refine AW.seq ?_
        refine AW.region ?_
        refine OpsW.q rfl (q_move (v := .pointer _) rfl) ?_
        refine OpsW.q rfl (q_move (v := S _) rfl) ?_
        obtain ⟨Hf15, le15, hA15, hB15⟩ := hSc14.framed at1
        refine OpsW.m rfl (o_call rfl Try.func31 rfl rfl (Append_A hA15 hI.1.2.1 (by omega))) ?_
        rintro _ H15 ⟨rfl, hR15⟩
        have hS15 := hB15 _ _ hR15
        clear hR15 hB15 hA15
        clear hSc14
        refine OpsW.q rfl (q_move (v := .pointer _) rfl) ?_
        refine OpsW.q rfl (q_move (v := S _) rfl) ?_
        obtain ⟨Hf16, le16, hA16, hB16⟩ := hS15.framed at2
        refine OpsW.m rfl (o_call rfl Try.func32 rfl rfl (Append_B hA16 hI.1.ref (by omega))) ?_
        rintro _ H16 ⟨rfl, hR16⟩
        have hS16 := hB16 _ _ hR16
        clear hR16 hB16 hA16
        clear hS15
        refine OpsW.q rfl (q_neq rfl rfl) ?_
        refine OpsW.nil ?_
        refine SeqP.go ?_
        refine AW.cond rfl (fun h11 => ?_) (fun h11 => ?_)
        ·
          exfalso
          try simp only [eb65, decide_eq_true_eq, decide_eq_false_iff_not, Bool.or_eq_true, Bool.and_eq_true, Bool.or_eq_false_iff, Bool.and_eq_false_imp, Bool.not_eq_true', Bool.not_eq_false', ne_eq, Decidable.not_not, Int.not_lt, Int.not_le, Bool.not_eq_true, Bool.not_eq_false] at h11
          have := (inv_append hI.1 inn).1
          simp_all
        try simp only [eb65, decide_eq_true_eq, decide_eq_false_iff_not, Bool.or_eq_true, Bool.and_eq_true, Bool.or_eq_false_iff, Bool.and_eq_false_imp, Bool.not_eq_true', Bool.not_eq_false', ne_eq, Decidable.not_not, Int.not_lt, Int.not_le, Bool.not_eq_true, Bool.not_eq_false] at h11
        refine AW.skip ?_
        replace hS16 := hS16.del del0
        exact CutP.go ⟨_, _, _, (inv_append hI.1 inn).2, Slots.eq ⟨(by rfl), (by rfl), (by rfl), (by rfl), (by rfl), (by rfl), (by rfl), (by rfl), (by rfl), (by rfl),  trivial⟩, hS16⟩
      rintro _ Hc17 ⟨t1, r1, _, hI1, rfl, hSc17⟩
      try clear hSc7
      refine AW.seq ?_
      refine AW.region ?_
      refine OpsW.q rfl (q_move (v := .pointer _) rfl) ?_
      obtain ⟨Hf18, le18, hA18, hB18⟩ := hSc17.framed at0
      refine OpsW.m rfl (o_call rfl Try.func15 rfl rfl (Open_A hA18 hI1.2.1)) ?_
      rintro v166 H18 ⟨va166, rfl, hR18⟩
      have hS18 := hB18 _ _ hR18
      clear hR18 hB18 hA18
      clear hSc17
      refine OpsW.q rfl (q_move (v := .tuple _) rfl) ?_
      refine OpsW.q rfl (q_extract (v := va166) rfl rfl) ?_
      refine OpsW.q rfl (q_extract (v := .int _ _) rfl rfl) ?_
      refine OpsW.q rfl (q_assign (v := va166) rfl) ?_
      refine OpsW.q rfl (q_assign (v := .int _ _) rfl) ?_
      refine OpsW.nil ?_
      refine SeqP.go ?_
      refine AW.seq ?_
      refine AW.region ?_
      refine OpsW.q rfl (q_move (v := .pointer _) rfl) ?_
      obtain ⟨Hf19, le19, hA19, hB19⟩ := hS18.framed at1
      refine OpsW.m rfl (o_call rfl Try.func26 rfl rfl (Open_B hI1 hA19)) ?_
      rintro v171 H19 ⟨vb171, rfl, hR19⟩
      have hS19 := hB19 _ _ hR19
      clear hR19 hB19 hA19
      clear hS18
      refine OpsW.q rfl (q_move (v := .tuple _) rfl) ?_
      refine OpsW.q rfl (q_extract (v := vb171) rfl rfl) ?_
      refine OpsW.q rfl (q_extract (v := .int _ _) rfl rfl) ?_
      refine OpsW.q rfl (q_assign (v := vb171) rfl) ?_
      refine OpsW.q rfl (q_assign (v := .int _ _) rfl) ?_
      refine OpsW.nil ?_
      refine SeqP.go ?_
      refine AW.seq ?_
      by_cases ho : (openS t1).1 = 0
      ·
        have hX := opX_yes ho
        obtain ⟨ba, rfl⟩ := psA_is hS19 at0 hX
        obtain ⟨bb, rfl⟩ := psB_is hS19 at1 hX
        refine AW.region ?_
        refine OpsW.q rfl (q_move (v := .pointer _) rfl) ?_
        refine OpsW.q rfl (q_eqlP Try.underlying35 rfl rfl) ?_
        refine OpsW.q rfl (q_move (v := .pointer _) rfl) ?_
        refine OpsW.q rfl (q_eqlP Try.underlying62 rfl rfl) ?_
        refine OpsW.q rfl (q_neqB Try.underlying4 rfl rfl) ?_
        refine OpsW.nil ?_
        refine SeqP.go ?_
        refine AW.cond rfl (fun h12 => ?_) (fun h12 => ?_)
        ·
          exfalso
          try simp only [eb65, decide_eq_true_eq, decide_eq_false_iff_not, Bool.or_eq_true, Bool.and_eq_true, Bool.or_eq_false_iff, Bool.and_eq_false_imp, Bool.not_eq_true', Bool.not_eq_false', ne_eq, Decidable.not_not, Int.not_lt, Int.not_le, Bool.not_eq_true, Bool.not_eq_false] at h12
          first | contradiction | (simp at *; done) | simp_all
        try simp only [eb65, decide_eq_true_eq, decide_eq_false_iff_not, Bool.or_eq_true, Bool.and_eq_true, Bool.or_eq_false_iff, Bool.and_eq_false_imp, Bool.not_eq_true', Bool.not_eq_false', ne_eq, Decidable.not_not, Int.not_lt, Int.not_le, Bool.not_eq_true, Bool.not_eq_false] at h12
        refine AW.skip ?_
        exact CutP.go ⟨_, _, _, _, _, _, _, (pl_open hI1), Slots.eq ⟨(by rfl), (by rfl), (by rfl), (by rfl), (by rfl), (by rfl), (by rfl), (by rfl), (by rfl), (by rfl),  trivial⟩, hS19⟩
      ·
        have hX := opX_no ho
        obtain rfl := psA_no hS19 at0 hX
        obtain rfl := psB_no hS19 at1 hX
        refine AW.region ?_
        refine OpsW.q rfl (q_move (v := .pointer _) rfl) ?_
        refine OpsW.q rfl (q_eqlP Try.underlying35 rfl rfl) ?_
        refine OpsW.q rfl (q_move (v := .pointer _) rfl) ?_
        refine OpsW.q rfl (q_eqlP Try.underlying62 rfl rfl) ?_
        refine OpsW.q rfl (q_neqB Try.underlying4 rfl rfl) ?_
        refine OpsW.nil ?_
        refine SeqP.go ?_
        refine AW.cond rfl (fun h12 => ?_) (fun h12 => ?_)
        ·
          exfalso
          try simp only [eb65, decide_eq_true_eq, decide_eq_false_iff_not, Bool.or_eq_true, Bool.and_eq_true, Bool.or_eq_false_iff, Bool.and_eq_false_imp, Bool.not_eq_true', Bool.not_eq_false', ne_eq, Decidable.not_not, Int.not_lt, Int.not_le, Bool.not_eq_true, Bool.not_eq_false] at h12
          first | contradiction | (simp at *; done) | simp_all
        try simp only [eb65, decide_eq_true_eq, decide_eq_false_iff_not, Bool.or_eq_true, Bool.and_eq_true, Bool.or_eq_false_iff, Bool.and_eq_false_imp, Bool.not_eq_true', Bool.not_eq_false', ne_eq, Decidable.not_not, Int.not_lt, Int.not_le, Bool.not_eq_true, Bool.not_eq_false] at h12
        refine AW.skip ?_
        exact CutP.go ⟨_, _, _, _, _, _, _, (pl_open hI1), Slots.eq ⟨(by rfl), (by rfl), (by rfl), (by rfl), (by rfl), (by rfl), (by rfl), (by rfl), (by rfl), (by rfl),  trivial⟩, hS19⟩
    rintro _ Hc20 ⟨t2, r2, X2, va2, vb2, z, _, hJ, rfl, hSc20⟩
    try clear hSc7
    refine AW.seq ?_
    refine AW.region ?_
    refine OpsW.q rfl (q_move (v := .pointer _) rfl) ?_
    refine OpsW.q rfl (o_call rfl Try.func24 rfl rfl (Read_A hSc20 at0 hJ.1.2.1)) ?_
    refine OpsW.q rfl (q_move (v := .tuple _) rfl) ?_
    refine OpsW.q rfl (q_extract (v := S _) rfl rfl) ?_
    refine OpsW.q rfl (q_extract (v := .int _ _) rfl rfl) ?_
    refine OpsW.q rfl (q_assign (v := S _) rfl) ?_
    refine OpsW.q rfl (q_assign (v := .int _ _) rfl) ?_
    refine OpsW.nil ?_
    refine SeqP.go ?_
    refine AW.seq ?_
    refine AW.region ?_
    refine OpsW.q rfl (q_move (v := .pointer _) rfl) ?_
    refine OpsW.q rfl (o_call rfl Try.func33 rfl rfl (Read_B hSc20 at1 hJ.1.ref)) ?_
    refine OpsW.q rfl (q_move (v := .tuple _) rfl) ?_
    refine OpsW.q rfl (q_extract (v := S _) rfl rfl) ?_
    refine OpsW.q rfl (q_extract (v := .int _ _) rfl rfl) ?_
    refine OpsW.q rfl (q_assign (v := S _) rfl) ?_
    refine OpsW.q rfl (q_assign (v := .int _ _) rfl) ?_
    refine OpsW.nil ?_
    refine SeqP.go ?_
    refine AW.seq ?_
    refine AW.seq ?_
    refine AW.region ?_
    refine OpsW.q rfl (q_move (v := .int _ _) rfl) ?_
    refine OpsW.q rfl (q_move (v := .int _ _) rfl) ?_
    refine OpsW.q rfl (q_neq rfl rfl) ?_
    refine OpsW.qb rfl (q_move (v := .bool _) rfl) ?_
    intro b192 eb192
    refine OpsW.g rfl rfl rfl (fun hB => by simp only [Bool.and_eq_true, beq_iff_eq] at hB; obtain rfl := hB; exact (q_move (v := S _) rfl)) ?_
    refine OpsW.g rfl rfl rfl (fun hB => by simp only [Bool.and_eq_true, beq_iff_eq] at hB; obtain rfl := hB; exact (q_move (v := S _) rfl)) ?_
    refine OpsW.g rfl rfl rfl (fun hB => by simp only [Bool.and_eq_true, beq_iff_eq] at hB; obtain rfl := hB; exact (q_neS rfl rfl)) ?_
    refine OpsW.q rfl (q_or2 rfl rfl rfl) ?_
    refine OpsW.qb rfl (q_move (v := .bool _) rfl) ?_
    intro b197 eb197
    refine OpsW.g rfl rfl rfl (fun hB => by simp only [Bool.and_eq_true, beq_iff_eq] at hB; obtain rfl := hB; exact (q_move (v := .int _ _) rfl)) ?_
    refine OpsW.g rfl rfl rfl (fun hB => by simp only [Bool.and_eq_true, beq_iff_eq] at hB; obtain rfl := hB; exact (q_move (v := .int _ _) rfl)) ?_
    refine OpsW.g rfl rfl rfl (fun hB => by simp only [Bool.and_eq_true, beq_iff_eq] at hB; obtain rfl := hB; exact (q_neq rfl rfl)) ?_
    refine OpsW.q rfl (q_or2 rfl rfl rfl) ?_
    refine OpsW.qb rfl (q_move (v := .bool _) rfl) ?_
    intro b202 eb202
    refine OpsW.g rfl rfl rfl (fun hB => by simp only [Bool.and_eq_true, beq_iff_eq] at hB; obtain rfl := hB; exact (q_move (v := .pointer _) rfl)) ?_
    refine OpsW.g rfl rfl rfl (fun hB => by simp only [Bool.and_eq_true, beq_iff_eq] at hB; obtain rfl := hB; exact (o_call rfl Try.func34 rfl rfl (Dead_A hSc20 at0))) ?_
    refine OpsW.g rfl rfl rfl (fun hB => by simp only [Bool.and_eq_true, beq_iff_eq] at hB; obtain rfl := hB; exact (q_move (v := .pointer _) rfl)) ?_
    refine OpsW.g rfl rfl rfl (fun hB => by simp only [Bool.and_eq_true, beq_iff_eq] at hB; obtain rfl := hB; exact (o_call rfl Try.func35 rfl rfl (Dead_B hSc20 at1 hJ.1.ref))) ?_
    refine OpsW.g rfl rfl rfl (fun hB => by simp only [Bool.and_eq_true, beq_iff_eq] at hB; obtain rfl := hB; exact (q_neqB Try.underlying4 rfl rfl)) ?_
    refine OpsW.q rfl (q_or2 rfl rfl rfl) ?_
    refine OpsW.nil ?_
    refine SeqP.go ?_
    refine AW.cond rfl (fun h13 => ?_) (fun h13 => ?_)
    ·
      exfalso
      try simp only [eb65, eb192, eb197, eb202, decide_eq_true_eq, decide_eq_false_iff_not, Bool.or_eq_true, Bool.and_eq_true, Bool.or_eq_false_iff, Bool.and_eq_false_imp, Bool.not_eq_true', Bool.not_eq_false', ne_eq, Decidable.not_not, Int.not_lt, Int.not_le, Bool.not_eq_true, Bool.not_eq_false] at h13
      have hrd := inv_read hJ.1
      have hdd := inv_dd hJ.1
      simp_all
    try simp only [eb65, eb192, eb197, eb202, decide_eq_true_eq, decide_eq_false_iff_not, Bool.or_eq_true, Bool.and_eq_true, Bool.or_eq_false_iff, Bool.and_eq_false_imp, Bool.not_eq_true', Bool.not_eq_false', ne_eq, Decidable.not_not, Int.not_lt, Int.not_le, Bool.not_eq_true, Bool.not_eq_false] at h13
    refine AW.skip ?_
    refine SeqP.go ?_
    refine AW.seq ?_
    rcases hX : X2 with _ | x
    ·
      obtain rfl := psA_no hSc20 at0 hX
      obtain rfl := psB_no hSc20 at1 hX
      subst hX
      refine AW.drawK [] 27 rfl (by kernel_rfl) ?_
      refine SeqK.q rfl (q_move (v := .pointer _) rfl) ?_
      refine SeqK.q rfl (q_neqP Try.underlying62 rfl rfl) ?_
      refine SeqK.q rfl (q_move (v := .bool false) rfl) ?_
      refine SeqK.p rfl rfl ?_
      refine SeqK.p rfl rfl ?_
      refine SeqK.p rfl rfl ?_
      refine SeqK.p rfl rfl ?_
      refine SeqK.p rfl rfl ?_
      refine SeqK.p rfl rfl ?_
      refine SeqK.p rfl rfl ?_
      refine SeqK.p rfl rfl ?_
      refine SeqK.pu rfl rfl ?_
      refine SeqK.pu rfl rfl ?_
      refine SeqK.pu rfl rfl ?_
      refine SeqK.pu rfl rfl ?_
      refine SeqK.pu rfl rfl ?_
      refine SeqK.pu rfl rfl ?_
      refine SeqK.pu rfl rfl ?_
      refine SeqK.pu rfl rfl ?_
      refine SeqK.p rfl rfl ?_
      refine SeqK.p rfl rfl ?_
      refine SeqK.pu rfl rfl ?_
      refine SeqK.pu rfl rfl ?_
      refine SeqK.pu rfl rfl ?_
      refine SeqK.pu rfl rfl ?_
      refine SeqK.pu rfl rfl ?_
      refine SeqK.pu rfl rfl ?_
      refine SeqK.done ?_
      refine OpsW.pu rfl rfl ?_
      refine OpsW.p rfl rfl ?_
      refine OpsW.q rfl (q_and2 (B := false) rfl rfl rfl) ?_
      refine OpsW.nil ?_
      refine SeqP.go ?_
      refine AW.cond rfl (fun h14 => ?_) (fun h14 => ?_)
      ·
        exfalso
        try simp only [eb65, eb192, eb197, eb202, decide_eq_true_eq, decide_eq_false_iff_not, Bool.or_eq_true, Bool.and_eq_true, Bool.or_eq_false_iff, Bool.and_eq_false_imp, Bool.not_eq_true', Bool.not_eq_false', ne_eq, Decidable.not_not, Int.not_lt, Int.not_le, Bool.not_eq_true, Bool.not_eq_false] at h14
        first | contradiction | (simp at *; done) | simp_all
      try simp only [eb65, eb192, eb197, eb202, decide_eq_true_eq, decide_eq_false_iff_not, Bool.or_eq_true, Bool.and_eq_true, Bool.or_eq_false_iff, Bool.and_eq_false_imp, Bool.not_eq_true', Bool.not_eq_false', ne_eq, Decidable.not_not, Int.not_lt, Int.not_le, Bool.not_eq_true, Bool.not_eq_false] at h14
      refine AW.skip ?_
      refine BlockP.go ?_
      refine SeqP.go ?_
      refine AW.region ?_
      refine OpsW.q rfl (q_move (v := .int _ _) rfl) ?_
      refine OpsW.q rfl (q_addI rfl rfl (by omega)) ?_
      refine OpsW.q rfl (q_assign (v := .int _ _) rfl) ?_
      refine OpsW.nil ?_
      exact LoopP.go _ (by omega) ⟨i + 1, _, _, _, _, _, _, rfl, ⟨hJ, by omega⟩, Slots.eq ⟨(by rfl), (by rfl), (by rfl), (by rfl), (by rfl), (by rfl), (by rfl),  trivial⟩, hSc20⟩
    ·
      obtain ⟨ba, rfl⟩ := psA_is hSc20 at0 hX
      obtain ⟨bb, rfl⟩ := psB_is hSc20 at1 hX
      subst hX
      have hG := hJ.2 x rfl
      have hGl := hG.len
      have hol := ofP_len x.st.L who
      refine AW.steps rfl 30 rfl ?_
      refine AnyW.onlyQG 0 rfl (by kernel_rfl) rfl (dst_lt rfl) (q_move (v := .pointer _) rfl) ?_
      refine AnyW.onlyQG 1 rfl (by kernel_rfl) rfl (dst_lt rfl) (q_neqP Try.underlying62 rfl rfl) ?_
      refine AnyW.onlyQG 2 rfl (by kernel_rfl) rfl (dst_lt rfl) (q_move (v := .bool true) rfl) ?_
      refine AnyW.firstG 3 rfl (by kernel_rfl) (by kernel_rfl) (by kernel_rfl) rfl (dst_lt rfl) (v_move (v := .pointer _) rfl) ?_
      refine AnyW.firstG 4 rfl (by kernel_rfl) (by kernel_rfl) (by kernel_rfl) rfl (dst_lt rfl) (v_move (v := S _) rfl) ?_
      refine AnyW.firstG 6 rfl (by kernel_rfl) (by kernel_rfl) (by kernel_rfl) rfl (dst_lt rfl) (v_move (v := .pointer _) rfl) ?_
      refine AnyW.firstG 7 rfl (by kernel_rfl) (by kernel_rfl) (by kernel_rfl) rfl (dst_lt rfl) (v_move (v := S _) rfl) ?_
      refine AnyW.onlyQG 5 rfl (by kernel_rfl) rfl (dst_lt rfl) (o_call rfl Try.func18 rfl rfl (Mark_A hSc20 at0)) ?_
      refine AnyW.onlyQG 8 rfl (by kernel_rfl) rfl (dst_lt rfl) (o_call rfl Try.func36 rfl rfl (Mark_B hSc20 at1 hG.ok (by omega))) ?_
      refine AnyW.onlyQG 9 rfl (by kernel_rfl) rfl (dst_lt rfl) (q_neq rfl rfl) ?_
      rw [decide_eq_false (not_not_intro (rfl : mkP x.st.L who = _))]
      refine AnyW.onlyQG 10 rfl (by kernel_rfl) rfl (dst_lt rfl) (q_move (v := .bool false) rfl) ?_
      refine AnyW.firstG 11 rfl (by kernel_rfl) (by kernel_rfl) (by kernel_rfl) rfl (dst_lt rfl) (v_move (v := .pointer _) rfl) ?_
      refine AnyW.firstG 12 rfl (by kernel_rfl) (by kernel_rfl) (by kernel_rfl) rfl (dst_lt rfl) (v_move (v := S _) rfl) ?_
      refine AnyW.firstG 14 rfl (by kernel_rfl) (by kernel_rfl) (by kernel_rfl) rfl (dst_lt rfl) (v_move (v := .pointer _) rfl) ?_
      refine AnyW.firstG 15 rfl (by kernel_rfl) (by kernel_rfl) (by kernel_rfl) rfl (dst_lt rfl) (v_move (v := S _) rfl) ?_
      refine AnyW.onlyG 13 rfl (by kernel_rfl) rfl (dst_lt rfl) (o_call rfl Try.func19 rfl rfl (Of_A hSc20 at0 (by omega))) ?_
      rintro v222 H21 hR21
      have hS21 := hSc20.join hR21
      simp only [List.cons_append, List.nil_append] at hS21
      clear hR21 hSc20
      refine AnyW.onlyG 16 rfl (by kernel_rfl) rfl (dst_lt rfl) (o_call rfl Try.func37 rfl rfl (Of_B hS21 at2 hG.ok (by omega))) ?_
      rintro v225 H22 hR22
      have hS22 := hS21.join hR22
      simp only [List.cons_append, List.nil_append] at hS22
      clear hR22 hS21
      refine AnyW.onlyQG 17 rfl (by kernel_rfl) rfl (dst_lt rfl) (o_call rfl Try.func23 rfl rfl (Same_con (l := ofP x.st.L who) (m := ofP x.st.L who) (hS22.vec at1) (hS22.vec at0) (by omega) (by omega))) ?_
      rw [decide_eq_true (rfl : ofP x.st.L who = _)]
      refine AnyW.onlyQG 18 rfl (by kernel_rfl) rfl (dst_lt rfl) (q_not rfl) ?_
      refine AnyW.onlyQG 19 rfl (by kernel_rfl) rfl (dst_lt rfl) (q_or2 rfl rfl rfl) ?_
      refine AnyW.onlyQG 20 rfl (by kernel_rfl) rfl (dst_lt rfl) (q_move (v := .bool false) rfl) ?_
      refine AnyW.firstG 21 rfl (by kernel_rfl) (by kernel_rfl) (by kernel_rfl) rfl (dst_lt rfl) (v_move (v := .pointer _) rfl) ?_
      refine AnyW.firstG 23 rfl (by kernel_rfl) (by kernel_rfl) (by kernel_rfl) rfl (dst_lt rfl) (v_move (v := .pointer _) rfl) ?_
      refine AnyW.firstG 24 rfl (by kernel_rfl) (by kernel_rfl) (by kernel_rfl) rfl (dst_lt rfl) (v_nilCheck rfl) ?_
      refine AnyW.firstG 25 rfl (by kernel_rfl) (by kernel_rfl) (by kernel_rfl) rfl (dst_lt rfl) (v_fieldAddr (sz := 0) Try.underlying69 rfl (by kernel_rfl) rfl) ?_
      refine AnyW.twoG 22 26 rfl rfl (by kernel_rfl) rfl rfl (dst_lt rfl) (dst_lt rfl) (o_call rfl Try.func20 rfl rfl (Head_A hS22 at2)) (q_load (v := S x.st.h) (by kernel_rfl) rfl (psB_blk hS22 at3).choose_spec rfl) ?_ ?_
      ·
        rintro _ _ ⟨rfl, rfl⟩
        refine AnyW.onlyQG 26 rfl (by kernel_rfl) rfl (dst_lt rfl) (q_load (v := S x.st.h) (by kernel_rfl) rfl (psB_blk hS22 at3).choose_spec rfl) ?_
        refine AnyW.onlyQG 27 rfl (by kernel_rfl) rfl (dst_lt rfl) (q_neS rfl rfl) ?_
        refine AnyW.onlyQG 28 rfl (by kernel_rfl) rfl (dst_lt rfl) (q_or2 rfl rfl rfl) ?_
        refine AnyW.onlyQG 29 rfl (by kernel_rfl) rfl (dst_lt rfl) (q_and2 rfl rfl rfl) ?_
        refine AnyW.done (by kernel_rfl) ?_
        refine SeqP.go ?_
        refine AW.cond rfl (fun h14 => ?_) (fun h14 => ?_)
        ·
          exfalso
          try simp only [eb65, eb192, eb197, eb202, decide_eq_true_eq, decide_eq_false_iff_not, Bool.or_eq_true, Bool.and_eq_true, Bool.or_eq_false_iff, Bool.and_eq_false_imp, Bool.not_eq_true', Bool.not_eq_false', ne_eq, Decidable.not_not, Int.not_lt, Int.not_le, Bool.not_eq_true, Bool.not_eq_false] at h14
          first | contradiction | (simp at *; done) | simp_all
        try simp only [eb65, eb192, eb197, eb202, decide_eq_true_eq, decide_eq_false_iff_not, Bool.or_eq_true, Bool.and_eq_true, Bool.or_eq_false_iff, Bool.and_eq_false_imp, Bool.not_eq_true', Bool.not_eq_false', ne_eq, Decidable.not_not, Int.not_lt, Int.not_le, Bool.not_eq_true, Bool.not_eq_false] at h14
        refine AW.skip ?_
        refine BlockP.go ?_
        refine SeqP.go ?_
        refine AW.region ?_
        refine OpsW.q rfl (q_move (v := .int _ _) rfl) ?_
        refine OpsW.q rfl (q_addI rfl rfl (by omega)) ?_
        refine OpsW.q rfl (q_assign (v := .int _ _) rfl) ?_
        refine OpsW.nil ?_
        replace hS22 := hS22.del del0
        replace hS22 := hS22.del del0
        exact LoopP.go _ (by omega) ⟨i + 1, _, _, _, _, _, _, rfl, ⟨hJ, by omega⟩, Slots.eq ⟨(by rfl), (by rfl), (by rfl), (by rfl), (by rfl), (by rfl), (by rfl),  trivial⟩, hS22⟩
      ·
        rintro _ _ ⟨rfl, rfl⟩
        refine AnyW.onlyQG 22 rfl (by kernel_rfl) rfl (dst_lt rfl) (o_call rfl Try.func20 rfl rfl (Head_A hS22 at2)) ?_
        refine AnyW.onlyQG 27 rfl (by kernel_rfl) rfl (dst_lt rfl) (q_neS rfl rfl) ?_
        refine AnyW.onlyQG 28 rfl (by kernel_rfl) rfl (dst_lt rfl) (q_or2 rfl rfl rfl) ?_
        refine AnyW.onlyQG 29 rfl (by kernel_rfl) rfl (dst_lt rfl) (q_and2 rfl rfl rfl) ?_
        refine AnyW.done (by kernel_rfl) ?_
        refine SeqP.go ?_
        refine AW.cond rfl (fun h14 => ?_) (fun h14 => ?_)
        ·
          exfalso
          try simp only [eb65, eb192, eb197, eb202, decide_eq_true_eq, decide_eq_false_iff_not, Bool.or_eq_true, Bool.and_eq_true, Bool.or_eq_false_iff, Bool.and_eq_false_imp, Bool.not_eq_true', Bool.not_eq_false', ne_eq, Decidable.not_not, Int.not_lt, Int.not_le, Bool.not_eq_true, Bool.not_eq_false] at h14
          first | contradiction | (simp at *; done) | simp_all
        try simp only [eb65, eb192, eb197, eb202, decide_eq_true_eq, decide_eq_false_iff_not, Bool.or_eq_true, Bool.and_eq_true, Bool.or_eq_false_iff, Bool.and_eq_false_imp, Bool.not_eq_true', Bool.not_eq_false', ne_eq, Decidable.not_not, Int.not_lt, Int.not_le, Bool.not_eq_true, Bool.not_eq_false] at h14
        refine AW.skip ?_
        refine BlockP.go ?_
        refine SeqP.go ?_
        refine AW.region ?_
        refine OpsW.q rfl (q_move (v := .int _ _) rfl) ?_
        refine OpsW.q rfl (q_addI rfl rfl (by omega)) ?_
        refine OpsW.q rfl (q_assign (v := .int _ _) rfl) ?_
        refine OpsW.nil ?_
        replace hS22 := hS22.del del0
        replace hS22 := hS22.del del0
        exact LoopP.go _ (by omega) ⟨i + 1, _, _, _, _, _, _, rfl, ⟨hJ, by omega⟩, Slots.eq ⟨(by rfl), (by rfl), (by rfl), (by rfl), (by rfl), (by rfl), (by rfl),  trivial⟩, hS22⟩
  ·
    refine AW.region ?_
    refine OpsW.q rfl (q_move (v := .int _ _) rfl) ?_
    refine OpsW.q rfl (o_call rfl Try.func14 rfl rfl (New_no hlim)) ?_
    refine OpsW.q rfl (q_move (v := .tuple _) rfl) ?_
    refine OpsW.q rfl (q_extract (v := .pointer _) rfl rfl) ?_
    refine OpsW.q rfl (q_extract (v := .int _ _) rfl rfl) ?_
    refine OpsW.q rfl (q_assign (v := .pointer _) rfl) ?_
    refine OpsW.q rfl (q_assign (v := .int _ _) rfl) ?_
    refine OpsW.nil ?_
    refine SeqP.go ?_
    refine AW.seq ?_
    refine AW.region ?_
    refine OpsW.q rfl (q_move (v := .int _ _) rfl) ?_
    refine OpsW.q rfl (o_call rfl Try.func25 rfl rfl (NewR_no hlim)) ?_
    refine OpsW.q rfl (q_move (v := .tuple _) rfl) ?_
    refine OpsW.q rfl (q_extract (v := .pointer _) rfl rfl) ?_
    refine OpsW.q rfl (q_extract (v := .int _ _) rfl rfl) ?_
    refine OpsW.q rfl (q_assign (v := .pointer _) rfl) ?_
    refine OpsW.q rfl (q_assign (v := .int _ _) rfl) ?_
    refine OpsW.nil ?_
    refine SeqP.go ?_
    refine AW.seq ?_
    refine AW.seq ?_
    refine AW.region ?_
    refine OpsW.q rfl (q_move (v := .int _ _) rfl) ?_
    refine OpsW.q rfl (q_move (v := .int _ _) rfl) ?_
    refine OpsW.q rfl (q_neq rfl rfl) ?_
    refine OpsW.q rfl (q_move (v := .bool false) rfl) ?_
    refine OpsW.qw rfl rfl (q_move (v := .pointer _) rfl) ?_
    refine OpsW.qw rfl rfl (q_eqlP Try.underlying32 rfl rfl) ?_
    refine OpsW.qw rfl rfl (q_move (v := .pointer _) rfl) ?_
    refine OpsW.qw rfl rfl (q_eqlP Try.underlying59 rfl rfl) ?_
    refine OpsW.qw rfl rfl (q_neqB Try.underlying4 rfl rfl) ?_
    refine OpsW.q rfl (q_or2 rfl rfl rfl) ?_
    refine OpsW.nil ?_
    refine SeqP.go ?_
    refine AW.cond rfl (fun h1 => ?_) (fun h1 => ?_)
    ·
      exfalso
      try simp only [decide_eq_true_eq, decide_eq_false_iff_not, Bool.or_eq_true, Bool.and_eq_true, Bool.or_eq_false_iff, Bool.and_eq_false_imp, Bool.not_eq_true', Bool.not_eq_false', ne_eq, Decidable.not_not, Int.not_lt, Int.not_le, Bool.not_eq_true, Bool.not_eq_false] at h1
      first | contradiction | (simp at *; done) | simp_all
    try simp only [decide_eq_true_eq, decide_eq_false_iff_not, Bool.or_eq_true, Bool.and_eq_true, Bool.or_eq_false_iff, Bool.and_eq_false_imp, Bool.not_eq_true', Bool.not_eq_false', ne_eq, Decidable.not_not, Int.not_lt, Int.not_le, Bool.not_eq_true, Bool.not_eq_false] at h1
    refine AW.skip ?_
    refine SeqP.go ?_
    refine AW.seq ?_
    refine AW.seq ?_
    refine AW.region ?_
    refine OpsW.q rfl (q_move (v := .pointer _) rfl) ?_
    refine OpsW.q rfl (q_eqlP Try.underlying59 rfl rfl) ?_
    refine OpsW.nil ?_
    refine SeqP.go ?_
    refine AW.cond rfl (fun h2 => ?_) (fun h2 => ?_)
    ·
      try simp only [decide_eq_true_eq, decide_eq_false_iff_not, Bool.or_eq_true, Bool.and_eq_true, Bool.or_eq_false_iff, Bool.and_eq_false_imp, Bool.not_eq_true', Bool.not_eq_false', ne_eq, Decidable.not_not, Int.not_lt, Int.not_le, Bool.not_eq_true, Bool.not_eq_false] at h2
      refine AW.seq ?_
      refine AW.region ?_
      refine OpsW.q rfl (o_call rfl Try.func9 rfl rfl (awake_con)) ?_
      refine OpsW.q rfl (q_assign (v := .bool _) rfl) ?_
      refine OpsW.nil ?_
      refine SeqP.go ?_
      refine AW.ret ?_
      refine SeqP.ret ?_
      refine RetP.mk1 (H' := _) (v1 := .bool _) rfl rfl  hS0.le ?_
      exact ⟨rfl, rfl⟩
    exfalso
    try simp only [decide_eq_true_eq, decide_eq_false_iff_not, Bool.or_eq_true, Bool.and_eq_true, Bool.or_eq_false_iff, Bool.and_eq_false_imp, Bool.not_eq_true', Bool.not_eq_false', ne_eq, Decidable.not_not, Int.not_lt, Int.not_le, Bool.not_eq_true, Bool.not_eq_false] at h2
    first | contradiction | (simp at *; done) | simp_all
end
end Go.Proofs.Ytfiojlmccflplaa
end
section
namespace Go.Proofs.Ytfiojlmccflplaa
open Go Go.RowKit Go.ChangeShapes Go.WideShapes Go.ChangeAt D
set_option linter.unusedVariables false
set_option maxRecDepth 100000
theorem own : ownKnob Try.prog.godebug = none := by kernel_rfl
theorem laidOut : laidOutB Try.prog = true := by kernel_rfl
theorem len5 {α : Type} {l : List α} (h : l.length = 5) : ∃ a b c d e, l = [a, b, c, d, e] := by
  match l, h with
  | [a, b, c, d, e], _ => exact ⟨a, b, c, d, e, rfl⟩
theorem storePlays_finish {H : Type} {enc : TypeId × Value → H} {C : Checked} {f : FuncId} {fn : Func} {s : ChangeSpec} {tb : TypeId} {W : World} {args : Array Value} {ds gs : List (DataW H)} {before : List MemPlace}
    (hl : laidOutB C.prog = true) (hp : rowed C.prog fn.params.toList = true) (hv : s.vars = []) (hr : fn.resultTypes = #[tb]) (htb : C.prog.underlying tb = some .bool)
    (hs : ∀ ds : List (DataW H), ds.length = fn.params.toList.length → (s.fn H ds).results = [.lit (.bool true)] ∧ (s.fn H ds).args = ds ∧ (s.fn H ds).vars = [])
    (hW : DataW.Whole enc C.prog fn.params.toList s.vars false W args.toList ds gs before) (hc : Con C.prog W f args (fun _ => none) fun v _ => v = .bool true) :
    Calls C.prog f args W fun e W' => ∃ v, e = .returned v ∧ s.post enc C.prog fn false true false false W args v W' := by
  refine (hc W (own_start W)).mono fun e W' ⟨v, H', he, ho, hvt⟩ => ?_
  subst hvt
  have hlen : ds.length = fn.params.toList.length ∧ gs = [] := by
    obtain ⟨p, q, hA, hV, _⟩ := hW
    rw [hv] at hV
    exact ⟨trodAll_length hA, (trodVars_none hV).1⟩
  refine ⟨_, he, post_true hl hp hv hr htb ?_ hW ho.below⟩
  rw [hlen.2, List.append_nil]
  exact hs ds hlen.1
theorem storePlaysUpto_lifted (os : Os) (started : os.Started) (H : Type) (enc : TypeId × Value → H) (F : Stop.Interp) :
    ReturnsInHanded {} Try.checked os 8 .any ((Rows.OpenSpec.upto Rows.storePlaysSpec).pre6 enc Try.prog Try.f8 Rows.storePlaysUptoRow.domain false) (((Rows.OpenSpec.upto Rows.storePlaysSpec).at F).post enc Try.prog Try.f8 false true false false) := by
  refine returnsInHanded_of_cond (C := Try.checked) (s := Rows.OpenSpec.upto Rows.storePlaysSpec) (k := Rows.uptoSmall) rfl own started (by kernel_rfl) Try.func8
    (OpenSpec.witness (enc := enc) (C := Try.checked) (s := Rows.OpenSpec.upto Rows.storePlaysSpec) (k := Rows.uptoSmall) rfl false ⟨#[], #[.int .i64 0, .slice none 0 0, .string ⟨#[]⟩], []⟩ 8 (by kernel_rfl) (by kernel_rfl) (by kernel_rfl)
      (x := ([.lit (.int .i64 0), .nil, .lit (.string [])], [], [])) (by kernel_rfl) rfl (by kernel_rfl)) ?_
  intro W base args ds gs before hval0 hW _ hk _
  have hval : ∀ (j : Nat) t v, Try.f8.params[j]? = some t → args[j]? = some v → Value.okWide Try.prog W .any base t v := hval0
  refine storePlays_finish (C := Try.checked) (s := Rows.storePlaysSpec) laidOut (by kernel_rfl) rfl (by kernel_rfl) Try.underlying4 ?_ hW ?_
  · intro ds h
    obtain ⟨d0, d1, d2, rfl⟩ := len3 h
    exact ⟨rfl, rfl, rfl⟩
  obtain ⟨p_, q_, hA0, hV, rfl, _, _⟩ := hW
  have hA : DataW.TrodAll enc Try.prog W 0 (fun _ => true) true Try.f8.params.toList args.toList ds p_ := hA0
  rw [Try.params8] at hA hval
  obtain ⟨v0, v1, v2, d0, d1, d2, p0_, p1_, p2_, rfl, rfl, rfl, h0, h1, h2⟩ := trodAll_three hA
  have hb := of_decide_eq_true hk
  obtain ⟨n, rfl, lo_n, hi_n⟩ := open_i64 Try.underlying3 (hval 0 _ v0 rfl rfl) h0
  obtain ⟨rx, mx, cx, gx, rfl, hmx, hrx, htx⟩ := open_sliceT Try.underlying31 (hval 1 _ v1 rfl rfl) h1
  have hops : ∀ j, j < mx → ∃ x : OpT, gx j = opCells5 x ∧ (-9223372036854775808 ≤ x.n ∧ x.n ≤ 9223372036854775807) ∧ (-9223372036854775808 ≤ x.who ∧ x.who ≤ 9223372036854775807) := fun j hj => by
    have hU := Try.underlying40
    have hl := ((htx j hj).struct hU).1
    rw [show Try.prog.cellsOf 40 = 5 by kernel_rfl] at hl
    obtain ⟨x0, x1, x2, x3, x4, hx⟩ := len5 hl
    have hT := htx j hj
    rw [hx] at hT ⊢
    obtain ⟨a0, h0, _, _⟩ := (hT.part hU 0 0 1 3 rfl (by kernel_rfl)).i64 Try.underlying3
    obtain ⟨a1, h1, lo1, hi1⟩ := (hT.part hU 1 1 1 3 rfl (by kernel_rfl)).i64 Try.underlying3
    obtain ⟨a2, h2, lo2, hi2⟩ := (hT.part hU 2 2 1 3 rfl (by kernel_rfl)).i64 Try.underlying3
    obtain ⟨a3, h3, _⟩ := (hT.part hU 3 3 1 9 rfl (by kernel_rfl)).str Try.underlying9
    obtain ⟨a4, h4⟩ := (hT.part hU 4 4 1 4 rfl (by kernel_rfl)).bool Try.underlying4
    simp at h0 h1 h2 h3 h4
    exact ⟨⟨a0, a1, a2, a3, a4⟩, by rw [h0, h1, h2, h3, h4]; rfl, ⟨lo2, hi2⟩, lo1, hi1⟩
  obtain ⟨ox, hRx, hOx⟩ := rows_of opCells5 _ (by rw [show Try.prog.cellsOf 40 = 5 by kernel_rfl] at hrx; exact hrx) ⟨0, 0, 0, [], false⟩ hops
  obtain ⟨s, rfl, hl_s, rfl⟩ := open_str Try.underlying9 (hval 2 _ v2 rfl rfl) h2
  simp only [List.cons_append, List.nil_append, Rows.uptoBulkAll, Rows.uptoBulk] at hb
  
  exact (plays_con n ox s hRx hmx (fun j hj => (hOx j hj).1) (by omega)).mono fun v H' h => h.1
theorem storePlaysUpto_holds : Rows.StorePlaysUptoSaid :=
  OpenClaim.holds_of_cond 8 Try.f8 rfl rfl rfl rfl rfl rfl rfl ⟨rfl, rfl, rfl, rfl, rfl⟩ rfl rfl rfl rfl rfl (by kernel_rfl) Try.func8 (by kernel_rfl)
    (of_decide_eq_true (by kernel_rfl)) (by unfold Func.isWrapper; first | (rw [if_pos (by decide +kernel)]; kernel_rfl) | (rw [if_neg (by decide +kernel)]; exact ⟨rfl, rfl⟩))
    (fun os started H enc _ F => storePlaysUpto_lifted os started H enc F)
end Go.Proofs.Ytfiojlmccflplaa
end
