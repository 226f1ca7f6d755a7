/-
  What chapter 15's readers do, in plain Lean: no program is in sight here.
-/
import Derived.Test.YthechpgaijadlaaReSpec
namespace Go.Proofs.Ythechpgaijadlaa
open Go Go.RowKit D
set_option linter.unusedVariables false
set_option linter.unusedSimpArgs false
set_option maxRecDepth 100000
theorem awF1 : feedP [] 0 [22, 3] = (0, [22, 3]) := feedP_ok (by decide)
theorem awN1 : nextP [22, 3] 0 = ((0, [], 33), ([22, 3], 0)) := nextP_busy (by rw [sizeP_short (badP_not3 (by decide +kernel)) (by decide)])
theorem awF2 : feedP [22, 3] 0 [4] = (0, [22, 3, 4]) := feedP_ok (by decide)
theorem awN2 : nextP [22, 3, 4] 0 = ((0, [], 11), ([22, 3, 4], 11)) := by
  have h := sizeP_bad (s := [22, 3, 4]) (badP_of3 (by decide) (by decide +kernel))
  rw [nextP_wrong (by rw [h]; decide) (by rw [h]; decide), h]
theorem awFr : frameP 22 [97, 98] = ([22, 3, 3, 0, 2, 97, 98], 0) := by
  rw [frameP_ok (by decide +kernel) (by decide)]
  rfl
end Go.Proofs.Ythechpgaijadlaa
