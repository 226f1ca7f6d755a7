/-
  Spools as pieces of what is owned. No condition.
-/
import Derived.Test.YtpaombkodoofgaaSuSpec
import Derived.Test.YtpaombkodoofgaaTw
namespace Go.Proofs.Ytpaombkodoofgaa.D
open Go Go.RowKit
set_option linter.unusedVariables false
section
variable {H0 H H' : Hp} {L : List Chunk} {c0 c1 c2 : Chunk}
/-- Some pieces alone, the others in the frame. -/
theorem Sep.parted {K : List Chunk} (h : Sep H0 (K ++ L) H) : ∃ Hf : Hp, H0.le Hf ∧ Sep Hf K H ∧ Sep H0 L Hf ∧ ∀ (K' : List Chunk) (H' : Hp), Sep Hf K' H' → Sep H0 (K' ++ L) H' := by
  obtain ⟨h1, h2, a, l1, l2, hK, hL⟩ := Sep.split h
  refine ⟨h2, hL.le, ?_, hL, fun K' H' hK' => hL.join hK'⟩
  have := Sep.beside (L := []) hK a l1 l2 (Hp.le_refl h2)
  rwa [List.append_nil] at this
theorem Sep.part1 (h : Sep H0 (c0 :: L) H) : ∃ Hf : Hp, H0.le Hf ∧ Sep Hf [c0] H ∧ Sep H0 L Hf ∧ ∀ (K' : List Chunk) (H' : Hp), Sep Hf K' H' → Sep H0 (K' ++ L) H' := Sep.parted (K := [c0]) h
theorem Sep.part2 (h : Sep H0 (c0 :: c1 :: L) H) : ∃ Hf : Hp, H0.le Hf ∧ Sep Hf [c0, c1] H ∧ Sep H0 L Hf ∧ ∀ (K' : List Chunk) (H' : Hp), Sep Hf K' H' → Sep H0 (K' ++ L) H' := Sep.parted (K := [c0, c1]) h
theorem Sep.part3 (h : Sep H0 (c0 :: c1 :: c2 :: L) H) : ∃ Hf : Hp, H0.le Hf ∧ Sep Hf [c0, c1, c2] H ∧ Sep H0 L Hf ∧ ∀ (K' : List Chunk) (H' : Hp), Sep Hf K' H' → Sep H0 (K' ++ L) H' := Sep.parted (K := [c0, c1, c2]) h
/-- Pieces in one. -/
theorem Sep.packed {K : List Chunk} (h : Sep H0 (K ++ L) H) : Sep H0 (.pred (fun g => Sep emp K g) :: L) H :=
  Sep.close _ h fun h1 hK => ⟨h1, Hp.le_refl _, hK⟩
theorem Sep.pack {K : List Chunk} {A : Hp → Prop} (h : Sep H0 (K ++ L) H) (hA : ∀ g, Sep emp K g → A g) : Sep H0 (.pred A :: L) H :=
  Sep.close _ h fun h1 hK => ⟨h1, Hp.le_refl _, hA h1 hK⟩
end
end Go.Proofs.Ytpaombkodoofgaa.D
namespace Go.Proofs.Ytpaombkodoofgaa
open Go Go.RowKit D
set_option linter.unusedVariables false
abbrev spCells (tb : Nat) (x : SpF) (lv : Value) : List Value := [lv, .int .i64 x.st.ak, .int .i64 x.st.la, PT tb, .int .i64 x.rm, .bool x.dd]
abbrev spBlk (tb : Nat) (x : SpF) (lv : Value) : Blk := ⟨spCells tb x lv, 6, 56⟩
/-- A spool at block b, and its tape at block tb. -/
def spA (b tb : Nat) (x : SpF) (t : TapeS) : Hp → Prop := fun h => ∃ lv, Sep emp [.blk b (spBlk tb x lv), .vec lv 46 2 x.st.l.length (rowsV recC x.st.l), tapeC tb t] h
abbrev spC (b tb : Nat) (x : SpF) (t : TapeS) : Chunk := .pred (spA b tb x t)
section
variable {H0 H : Hp} {L : List Chunk} {b tb : Nat} {x : SpF} {t : TapeS} {F : Chunk → List Chunk}
theorem sp_open (h : Sep H0 (spC b tb x t :: L) H) : ∃ lv, Sep H0 (.blk b (spBlk tb x lv) :: .vec lv 46 2 x.st.l.length (rowsV recC x.st.l) :: tapeC tb t :: L) H := by
  obtain ⟨h1, ⟨g, hg, lv, hK⟩, hall⟩ := Sep.opened h
  exact ⟨lv, hall _ (hK.mono hg)⟩
theorem sp_close {lv : Value} (h : Sep H0 (.blk b (spBlk tb x lv) :: .vec lv 46 2 x.st.l.length (rowsV recC x.st.l) :: tapeC tb t :: L) H) : Sep H0 (spC b tb x t :: L) H :=
  Sep.pack (K := [.blk b (spBlk tb x lv), .vec lv 46 2 x.st.l.length (rowsV recC x.st.l), tapeC tb t]) h fun g hg => ⟨lv, hg⟩
theorem sp_tape (h : Sep H0 (spC b tb x t :: L) H) : Sep H0 (tapeC tb t :: L) H := by
  obtain ⟨lv, h1⟩ := sp_open h
  exact h1.tail.tail
theorem sp_look (h : Sep H0 L H) (hA : At L (spC b tb x t) F) : ∃ lv, H b = some (spBlk tb x lv) ∧ Vec H 46 2 lv x.st.l.length (rowsV recC x.st.l) := by
  obtain ⟨g, hg, lv, hK⟩ := h.get hA
  exact ⟨lv, hg _ _ (hK.blk at0), (hK.vec at1).le hg⟩
end
end Go.Proofs.Ytpaombkodoofgaa
