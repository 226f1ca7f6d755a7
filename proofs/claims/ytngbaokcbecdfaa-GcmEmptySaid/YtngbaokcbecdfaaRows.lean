/-
  No cell of these rows narrows 'for every input' (looked for: loops, veiled, ifaces, maps, wideKeys, modest, calm, conditions, laid).
  DERIVED. THE GIVEN ROWS OF THIS SEAT. 6 by the template 'for every input the law returns true; each argument reads behind the call as it read before'; 0 by the template 'total and deterministic' (their statements: YtngbaokcbecdfaaTotals.lean).
  GIVEN WITH THE SEED: the statements are not yours to turn. If you find one false, say at which input.
  Laid BY PROGRAM, IN A SANDBOX (cutbox-rows.mjs): the forced cells as the released guide's own fill.sh prints them over the translation 25abe051f291ffc0… (all of the seat's roots in one cut). By AI agents, Wed Nov 11 2026. No macro, syntax, notation, axiom, sorry.
-/
import Derived.Test.YtngbaokcbecdfaaChecked
import GoSem.Claim
import GoSem.ClaimJoined
import GoSem.ClaimMapViews
import Derived.JoinedTies
import Derived.KernelRfl
namespace Go.Proofs.Ytngbaokcbecdfaa
/- THE CELL 'sum', in the pinned program and in every row, IS THE sha256 OF THE DUMP (.gsa) THAT YtngbaokcbecdfaaProg.lean LOADS. Nothing in Lean hashes anything: it is a label: what it is worth is what the hold of that sum in a sandbox is worth. -/
noncomputable def Try.pinned : Pinned := { name := "ytngbaokcbecdfaa", sum := "25abe051f291ffc08a3cdd03bd2f319053f7be65d5ad06b631c152247b694524", checked := Try.checked }
namespace Rows
def none {H : Type} : Left H := { results := [], args := [] }

/-- 'cressetlaw06.GcmHashes': WHATEVER THE INPUT: true; the input reads as it did. -/
def gcmHashesSpec : ChangeSpec := { name := "gcmHashes", fn := fun _ => fun
  | [d1, d2] => { results := [.lit (.bool true)], args := [d1, d2] }
  | _ => none }
def gcmHashesRow : OpenClaim := { program := "ytngbaokcbecdfaa", sum := "25abe051f291ffc08a3cdd03bd2f319053f7be65d5ad06b631c152247b694524", func := "cresset/cressetlaw06.GcmHashes", spec := "gcmHashes", apart := false }
def GcmHashesSaid : Prop := gcmHashesRow.holds Try.pinned (OpenSpec.ofChange gcmHashesSpec)

/-- ITS FALSE NEIGHBOUR: 'it returns false'. Refute it at one input. -/
def gcmHashesWrong : ChangeSpec := { name := "gcmHashes", fn := fun _ => fun
  | [d1, d2] => { results := [.lit (.bool false)], args := [d1, d2] }
  | _ => none }
def GcmHashesWrongFalsely : Prop := gcmHashesRow.holds Try.pinned (OpenSpec.ofChange gcmHashesWrong)

/-- 'cressetlaw06.GcmSeals': WHATEVER THE INPUT: true; the input reads as it did. -/
def gcmSealsSpec : ChangeSpec := { name := "gcmSeals", fn := fun _ => fun
  | [d] => { results := [.lit (.bool true)], args := [d] }
  | _ => none }
def gcmSealsRow : OpenClaim := { program := "ytngbaokcbecdfaa", sum := "25abe051f291ffc08a3cdd03bd2f319053f7be65d5ad06b631c152247b694524", func := "cresset/cressetlaw06.GcmSeals", spec := "gcmSeals", apart := false }
def GcmSealsSaid : Prop := gcmSealsRow.holds Try.pinned (OpenSpec.ofChange gcmSealsSpec)

/-- ITS FALSE NEIGHBOUR: 'it returns false'. Refute it at one input. -/
def gcmSealsWrong : ChangeSpec := { name := "gcmSeals", fn := fun _ => fun
  | [d] => { results := [.lit (.bool false)], args := [d] }
  | _ => none }
def GcmSealsWrongFalsely : Prop := gcmSealsRow.holds Try.pinned (OpenSpec.ofChange gcmSealsWrong)

/-- 'cressetlaw06.GcmOpens': WHATEVER THE INPUT: true; the input reads as it did. -/
def gcmOpensSpec : ChangeSpec := { name := "gcmOpens", fn := fun _ => fun
  | [d] => { results := [.lit (.bool true)], args := [d] }
  | _ => none }
def gcmOpensRow : OpenClaim := { program := "ytngbaokcbecdfaa", sum := "25abe051f291ffc08a3cdd03bd2f319053f7be65d5ad06b631c152247b694524", func := "cresset/cressetlaw06.GcmOpens", spec := "gcmOpens", apart := false }
def GcmOpensSaid : Prop := gcmOpensRow.holds Try.pinned (OpenSpec.ofChange gcmOpensSpec)

/-- ITS FALSE NEIGHBOUR: 'it returns false'. Refute it at one input. -/
def gcmOpensWrong : ChangeSpec := { name := "gcmOpens", fn := fun _ => fun
  | [d] => { results := [.lit (.bool false)], args := [d] }
  | _ => none }
def GcmOpensWrongFalsely : Prop := gcmOpensRow.holds Try.pinned (OpenSpec.ofChange gcmOpensWrong)

/-- 'cressetlaw06.GcmBack': WHATEVER THE INPUT: true; the input reads as it did. -/
def gcmBackSpec : ChangeSpec := { name := "gcmBack", fn := fun _ => fun
  | [d1, d2] => { results := [.lit (.bool true)], args := [d1, d2] }
  | _ => none }
def gcmBackRow : OpenClaim := { program := "ytngbaokcbecdfaa", sum := "25abe051f291ffc08a3cdd03bd2f319053f7be65d5ad06b631c152247b694524", func := "cresset/cressetlaw06.GcmBack", spec := "gcmBack", apart := false }
def GcmBackSaid : Prop := gcmBackRow.holds Try.pinned (OpenSpec.ofChange gcmBackSpec)

/-- ITS FALSE NEIGHBOUR: 'it returns false'. Refute it at one input. -/
def gcmBackWrong : ChangeSpec := { name := "gcmBack", fn := fun _ => fun
  | [d1, d2] => { results := [.lit (.bool false)], args := [d1, d2] }
  | _ => none }
def GcmBackWrongFalsely : Prop := gcmBackRow.holds Try.pinned (OpenSpec.ofChange gcmBackWrong)

/-- 'cressetlaw06.GcmAdds': WHATEVER THE INPUT: true; the input reads as it did. -/
def gcmAddsSpec : ChangeSpec := { name := "gcmAdds", fn := fun _ => fun
  | [d1, d2, d3] => { results := [.lit (.bool true)], args := [d1, d2, d3] }
  | _ => none }
def gcmAddsRow : OpenClaim := { program := "ytngbaokcbecdfaa", sum := "25abe051f291ffc08a3cdd03bd2f319053f7be65d5ad06b631c152247b694524", func := "cresset/cressetlaw06.GcmAdds", spec := "gcmAdds", apart := false }
def GcmAddsSaid : Prop := gcmAddsRow.holds Try.pinned (OpenSpec.ofChange gcmAddsSpec)

/-- ITS FALSE NEIGHBOUR: 'it returns false'. Refute it at one input. -/
def gcmAddsWrong : ChangeSpec := { name := "gcmAdds", fn := fun _ => fun
  | [d1, d2, d3] => { results := [.lit (.bool false)], args := [d1, d2, d3] }
  | _ => none }
def GcmAddsWrongFalsely : Prop := gcmAddsRow.holds Try.pinned (OpenSpec.ofChange gcmAddsWrong)

/-- 'cressetlaw06.GcmEmpty': WHATEVER THE INPUT: true; the input reads as it did. -/
def gcmEmptySpec : ChangeSpec := { name := "gcmEmpty", fn := fun _ => fun
  | [d1, d2] => { results := [.lit (.bool true)], args := [d1, d2] }
  | _ => none }
def gcmEmptyRow : OpenClaim := { program := "ytngbaokcbecdfaa", sum := "25abe051f291ffc08a3cdd03bd2f319053f7be65d5ad06b631c152247b694524", func := "cresset/cressetlaw06.GcmEmpty", spec := "gcmEmpty", apart := false }
def GcmEmptySaid : Prop := gcmEmptyRow.holds Try.pinned (OpenSpec.ofChange gcmEmptySpec)

/-- ITS FALSE NEIGHBOUR: 'it returns false'. Refute it at one input. -/
def gcmEmptyWrong : ChangeSpec := { name := "gcmEmpty", fn := fun _ => fun
  | [d1, d2] => { results := [.lit (.bool false)], args := [d1, d2] }
  | _ => none }
def GcmEmptyWrongFalsely : Prop := gcmEmptyRow.holds Try.pinned (OpenSpec.ofChange gcmEmptyWrong)

/- THE SECOND FORM. 'bulk': how many values and letters a reading holds, each counted each time it is reached (what is shared counts as often as it is met; a slice's spare places count too). A statement '..UptoSaid' is the law's where the arguments, and the package variables that the reading takes, are together of bulk at most 1048576: NARROWER than '..Said'. Prove '..Said' where nothing that the law and all that it calls make is longer than what came in: it says more and counts as full. Else prove '..UptoSaid'. A law counts once. -/
mutual
def uptoBulk {H : Type} : DataW H → Nat
  | .lit (.string bytes) => bytes.length + 1
  | .lit _ => 1
  | .nil => 1
  | .ptr d => uptoBulk d + 1
  | .slice elems spare => uptoBulkAll elems + uptoBulkAll spare + 1
  | .agg parts => uptoBulkAll parts + 1
  | .iface _ d => uptoBulk d + 1
  | .map entries => uptoBulkEntries entries + 1
  | .held _ => 1
def uptoBulkAll {H : Type} : List (DataW H) → Nat
  | [] => 0
  | d :: r => uptoBulk d + uptoBulkAll r
def uptoBulkEntries {H : Type} : List (Lit × DataW H) → Nat
  | [] => 0
  | x :: r => uptoBulkEntry x + uptoBulkEntries r
def uptoBulkEntry {H : Type} : Lit × DataW H → Nat
  | (.string bytes, d) => bytes.length + uptoBulk d + 1
  | (_, d) => uptoBulk d + 1
 end
def uptoSmall : (H : Type) → List (DataW H) → Bool := fun _ ds => decide (uptoBulkAll ds ≤ 1048576)
def OpenSpec.upto (s : _root_.Go.ChangeSpec) : _root_.Go.OpenSpec := { _root_.Go.OpenSpec.ofChange s with cond := some uptoSmall }

/-- 'cressetlaw06.GcmHashes', WHERE WHAT IT READS IS OF BULK AT MOST 1048576: true; the input reads as it did. -/
def gcmHashesUptoRow : OpenClaim := { program := "ytngbaokcbecdfaa", sum := "25abe051f291ffc08a3cdd03bd2f319053f7be65d5ad06b631c152247b694524", func := "cresset/cressetlaw06.GcmHashes", spec := "gcmHashes", apart := false, narrowed := true }
def GcmHashesUptoSaid : Prop := gcmHashesUptoRow.holds Try.pinned (OpenSpec.upto gcmHashesSpec)

/-- 'cressetlaw06.GcmSeals', WHERE WHAT IT READS IS OF BULK AT MOST 1048576: true; the input reads as it did. -/
def gcmSealsUptoRow : OpenClaim := { program := "ytngbaokcbecdfaa", sum := "25abe051f291ffc08a3cdd03bd2f319053f7be65d5ad06b631c152247b694524", func := "cresset/cressetlaw06.GcmSeals", spec := "gcmSeals", apart := false, narrowed := true }
def GcmSealsUptoSaid : Prop := gcmSealsUptoRow.holds Try.pinned (OpenSpec.upto gcmSealsSpec)

/-- 'cressetlaw06.GcmOpens', WHERE WHAT IT READS IS OF BULK AT MOST 1048576: true; the input reads as it did. -/
def gcmOpensUptoRow : OpenClaim := { program := "ytngbaokcbecdfaa", sum := "25abe051f291ffc08a3cdd03bd2f319053f7be65d5ad06b631c152247b694524", func := "cresset/cressetlaw06.GcmOpens", spec := "gcmOpens", apart := false, narrowed := true }
def GcmOpensUptoSaid : Prop := gcmOpensUptoRow.holds Try.pinned (OpenSpec.upto gcmOpensSpec)

/-- 'cressetlaw06.GcmBack', WHERE WHAT IT READS IS OF BULK AT MOST 1048576: true; the input reads as it did. -/
def gcmBackUptoRow : OpenClaim := { program := "ytngbaokcbecdfaa", sum := "25abe051f291ffc08a3cdd03bd2f319053f7be65d5ad06b631c152247b694524", func := "cresset/cressetlaw06.GcmBack", spec := "gcmBack", apart := false, narrowed := true }
def GcmBackUptoSaid : Prop := gcmBackUptoRow.holds Try.pinned (OpenSpec.upto gcmBackSpec)

/-- 'cressetlaw06.GcmAdds', WHERE WHAT IT READS IS OF BULK AT MOST 1048576: true; the input reads as it did. -/
def gcmAddsUptoRow : OpenClaim := { program := "ytngbaokcbecdfaa", sum := "25abe051f291ffc08a3cdd03bd2f319053f7be65d5ad06b631c152247b694524", func := "cresset/cressetlaw06.GcmAdds", spec := "gcmAdds", apart := false, narrowed := true }
def GcmAddsUptoSaid : Prop := gcmAddsUptoRow.holds Try.pinned (OpenSpec.upto gcmAddsSpec)

/-- 'cressetlaw06.GcmEmpty', WHERE WHAT IT READS IS OF BULK AT MOST 1048576: true; the input reads as it did. -/
def gcmEmptyUptoRow : OpenClaim := { program := "ytngbaokcbecdfaa", sum := "25abe051f291ffc08a3cdd03bd2f319053f7be65d5ad06b631c152247b694524", func := "cresset/cressetlaw06.GcmEmpty", spec := "gcmEmpty", apart := false, narrowed := true }
def GcmEmptyUptoSaid : Prop := gcmEmptyUptoRow.holds Try.pinned (OpenSpec.upto gcmEmptySpec)

end Rows
end Go.Proofs.Ytngbaokcbecdfaa
