/-
  The walks of the document's tape.
-/
import Derived.Test.YtpaombkodoofgaaTrSpec
namespace Go.Proofs.Ytpaombkodoofgaa
open Go Go.RowKit D
set_option linter.unusedVariables false
set_option linter.unusedSimpArgs false
set_option maxRecDepth 100000
set_option maxHeartbeats 1000000
section
variable {w0 : World} {H : Hp} {b : Nat} {r : RefS}

end
end Go.Proofs.Ytpaombkodoofgaa

