/-
  What Keys, Blocks and Block answer.
-/
import Derived.Test.YtngbaokcbecdfaaAeSp3
namespace Go.Proofs.Ytngbaokcbecdfaa
open Go Go.RowKit D
set_option linter.unusedVariables false
set_option linter.unusedSimpArgs false
set_option maxRecDepth 100000
set_option maxHeartbeats 1000000
theorem stA_length' (ks s : List UInt8) : (stA ks s 10).length = 16 := stA_length ks s 10
def blkL (key : List UInt8) (bs : List (List UInt8)) (i : Nat) : List (List UInt8) := (bs.take i).map (blkA key)
theorem blkL_zero (key : List UInt8) (bs : List (List UInt8)) : blkL key bs 0 = [] := rfl
theorem blkL_succ (key : List UInt8) {bs : List (List UInt8)} {i : Nat} (h : i < bs.length) : blkL key bs (i + 1) = blkL key bs i ++ [blkA key (bs.getD i [])] := by
  unfold blkL
  rw [List.take_succ_eq_append_getElem h, List.map_append, List.getD_eq_getElem?_getD, List.getElem?_eq_getElem h]; rfl
theorem blkL_length (key : List UInt8) {bs : List (List UInt8)} {i : Nat} (h : i ≤ bs.length) : (blkL key bs i).length = i := by simp [blkL]; omega
theorem blkL_all (key : List UInt8) (bs : List (List UInt8)) : blkL key bs bs.length = bs.map (blkA key) := by rw [blkL, List.take_length]
def blocksP (key : List UInt8) (bs : List (List UInt8)) : List (List UInt8) × Int :=
  if key.length = 16 then (if ∀ j, j < bs.length → (bs.getD j []).length = 16 then (bs.map (blkA key), 0) else ([], 1)) else ([], 21)
theorem blocksP_key {key : List UInt8} (bs : List (List UInt8)) (h : ¬ key.length = 16) : blocksP key bs = ([], 21) := if_neg h
theorem blocksP_bad {key : List UInt8} {bs : List (List UInt8)} {i : Nat} (h : key.length = 16) (hi : i < bs.length) (hb : ¬ (bs.getD i []).length = 16) : blocksP key bs = ([], 1) := by
  rw [blocksP, if_pos h, if_neg (fun g => hb (g i hi))]
theorem blocksP_ok {key : List UInt8} {bs : List (List UInt8)} (h : key.length = 16) (hb : ∀ j, j < bs.length → (bs.getD j []).length = 16) : blocksP key bs = (bs.map (blkA key), 0) := by
  rw [blocksP, if_pos h, if_pos hb]
def blockP (key b : List UInt8) : List UInt8 × Int := if key.length = 16 then (if b.length = 16 then (blkA key b, 0) else ([], 1)) else ([], 21)
theorem blockP_ok {key b : List UInt8} (h : key.length = 16) (hb : b.length = 16) : blockP key b = (blkA key b, 0) := by rw [blockP, if_pos h, if_pos hb]
theorem blockP_bad {key b : List UInt8} (h : key.length = 16) (hb : ¬ b.length = 16) : blockP key b = ([], 1) := by rw [blockP, if_pos h, if_neg hb]
theorem blockP_key {key : List UInt8} (b : List UInt8) (h : ¬ key.length = 16) : blockP key b = ([], 21) := if_neg h
theorem blocksP_one (key b : List UInt8) : blocksP key [b] = (if (blockP key b).2 = 0 then [(blockP key b).1] else [], (blockP key b).2) := by
  by_cases h : key.length = 16
  · by_cases hb : b.length = 16
    · rw [blocksP_ok h (by intro j hj; have : j = 0 := by simp at hj; omega
                           subst this; exact hb), blockP_ok h hb]; rfl
    · rw [blocksP_bad (bs := [b]) (i := 0) h (by simp) hb, blockP_bad h hb]; rfl
  · rw [blocksP_key _ h, blockP_key _ h]; rfl
theorem blockP_err {key b : List UInt8} (h : ¬ (blockP key b).2 = 0) : (blockP key b).1 = [] := by
  unfold blockP at *
  split
  · rename_i h1
    split
    · rename_i h2; rw [if_pos h1, if_pos h2] at h; exact absurd rfl h
    · rfl
  · rfl
theorem blockP_zero {key b : List UInt8} (h : (blockP key b).2 = 0) : key.length = 16 ∧ b.length = 16 := by
  unfold blockP at h
  split at h
  · rename_i h1
    split at h
    · rename_i h2; exact ⟨h1, h2⟩
    · exact absurd h (by decide)
  · exact absurd h (by decide)
def keysP (key : List UInt8) : List (List UInt8) × Int := if key.length = 16 then (keysS (keysL key) 11, 0) else ([], 21)
theorem keysP_ok {key : List UInt8} (h : key.length = 16) : keysP key = (keysS (keysL key) 11, 0) := if_pos h
theorem keysP_no {key : List UInt8} (h : ¬ key.length = 16) : keysP key = ([], 21) := if_neg h
end Go.Proofs.Ytngbaokcbecdfaa
