/-
  No cell of these rows narrows 'for every input' (looked for: loops, veiled, ifaces, maps, wideKeys, modest, calm, conditions, laid).
  DERIVED. THE GIVEN ROWS OF THIS SEAT. 4 by the template 'for every input the law returns true; each argument reads behind the call as it read before'; 0 by the template 'total and deterministic' (their statements: YtgahoadojcabnaaTotals.lean).
  GIVEN WITH THE SEED: the statements are not yours to turn. If you find one false, say at which input.
  Laid BY PROGRAM, IN A SANDBOX (cutbox-rows.mjs): the forced cells as the released guide's own fill.sh prints them over the translation 60ace4c3d4b0abc7… (all of the seat's roots in one cut). By AI agents, Wed Nov 11 2026. No macro, syntax, notation, axiom, sorry.
-/
import Derived.Test.YtgahoadojcabnaaChecked
import GoSem.Claim
import GoSem.ClaimJoined
import GoSem.ClaimMapViews
import Derived.JoinedTies
import Derived.KernelRfl
namespace Go.Proofs.Ytgahoadojcabnaa
/- THE CELL 'sum', in the pinned program and in every row, IS THE sha256 OF THE DUMP (.gsa) THAT YtgahoadojcabnaaProg.lean LOADS. Nothing in Lean hashes anything: it is a label: what it is worth is what the hold of that sum in a sandbox is worth. -/
noncomputable def Try.pinned : Pinned := { name := "ytgahoadojcabnaa", sum := "60ace4c3d4b0abc71898edda2dae5cdf87767c9bd48f1cf1ddf46165a8bdc811", checked := Try.checked }
namespace Rows
def none {H : Type} : Left H := { results := [], args := [] }

/-- 'cressetlaw22.TapeLasts': WHATEVER THE INPUT: true; the input reads as it did. -/
def tapeLastsSpec : ChangeSpec := { name := "tapeLasts", fn := fun _ => fun
  | [d1, d2, d3] => { results := [.lit (.bool true)], args := [d1, d2, d3] }
  | _ => none }
def tapeLastsRow : OpenClaim := { program := "ytgahoadojcabnaa", sum := "60ace4c3d4b0abc71898edda2dae5cdf87767c9bd48f1cf1ddf46165a8bdc811", func := "cresset/cressetlaw22.TapeLasts", spec := "tapeLasts", apart := false }
def TapeLastsSaid : Prop := tapeLastsRow.holds Try.pinned (OpenSpec.ofChange tapeLastsSpec)

/-- ITS FALSE NEIGHBOUR: 'it returns false'. Refute it at one input. -/
def tapeLastsWrong : ChangeSpec := { name := "tapeLasts", fn := fun _ => fun
  | [d1, d2, d3] => { results := [.lit (.bool false)], args := [d1, d2, d3] }
  | _ => none }
def TapeLastsWrongFalsely : Prop := tapeLastsRow.holds Try.pinned (OpenSpec.ofChange tapeLastsWrong)

/-- 'cressetlaw22.TapeCut': WHATEVER THE INPUT: true; the input reads as it did. -/
def tapeCutSpec : ChangeSpec := { name := "tapeCut", fn := fun _ => fun
  | [d1, d2] => { results := [.lit (.bool true)], args := [d1, d2] }
  | _ => none }
def tapeCutRow : OpenClaim := { program := "ytgahoadojcabnaa", sum := "60ace4c3d4b0abc71898edda2dae5cdf87767c9bd48f1cf1ddf46165a8bdc811", func := "cresset/cressetlaw22.TapeCut", spec := "tapeCut", apart := false }
def TapeCutSaid : Prop := tapeCutRow.holds Try.pinned (OpenSpec.ofChange tapeCutSpec)

/-- ITS FALSE NEIGHBOUR: 'it returns false'. Refute it at one input. -/
def tapeCutWrong : ChangeSpec := { name := "tapeCut", fn := fun _ => fun
  | [d1, d2] => { results := [.lit (.bool false)], args := [d1, d2] }
  | _ => none }
def TapeCutWrongFalsely : Prop := tapeCutRow.holds Try.pinned (OpenSpec.ofChange tapeCutWrong)

/-- 'cressetlaw22.TapePlays': WHATEVER THE INPUT: true; the input reads as it did. -/
def tapePlaysSpec : ChangeSpec := { name := "tapePlays", fn := fun _ => fun
  | [d1, d2] => { results := [.lit (.bool true)], args := [d1, d2] }
  | _ => none }
def tapePlaysRow : OpenClaim := { program := "ytgahoadojcabnaa", sum := "60ace4c3d4b0abc71898edda2dae5cdf87767c9bd48f1cf1ddf46165a8bdc811", func := "cresset/cressetlaw22.TapePlays", spec := "tapePlays", apart := false }
def TapePlaysSaid : Prop := tapePlaysRow.holds Try.pinned (OpenSpec.ofChange tapePlaysSpec)

/-- ITS FALSE NEIGHBOUR: 'it returns false'. Refute it at one input. -/
def tapePlaysWrong : ChangeSpec := { name := "tapePlays", fn := fun _ => fun
  | [d1, d2] => { results := [.lit (.bool false)], args := [d1, d2] }
  | _ => none }
def TapePlaysWrongFalsely : Prop := tapePlaysRow.holds Try.pinned (OpenSpec.ofChange tapePlaysWrong)

/-- 'cressetlaw22.TapeNil': WHATEVER THE INPUT: true; the input reads as it did. -/
def tapeNilSpec : ChangeSpec := { name := "tapeNil", fn := fun _ => fun
  | [d1, d2] => { results := [.lit (.bool true)], args := [d1, d2] }
  | _ => none }
def tapeNilRow : OpenClaim := { program := "ytgahoadojcabnaa", sum := "60ace4c3d4b0abc71898edda2dae5cdf87767c9bd48f1cf1ddf46165a8bdc811", func := "cresset/cressetlaw22.TapeNil", spec := "tapeNil", apart := false }
def TapeNilSaid : Prop := tapeNilRow.holds Try.pinned (OpenSpec.ofChange tapeNilSpec)

/-- ITS FALSE NEIGHBOUR: 'it returns false'. Refute it at one input. -/
def tapeNilWrong : ChangeSpec := { name := "tapeNil", fn := fun _ => fun
  | [d1, d2] => { results := [.lit (.bool false)], args := [d1, d2] }
  | _ => none }
def TapeNilWrongFalsely : Prop := tapeNilRow.holds Try.pinned (OpenSpec.ofChange tapeNilWrong)

/- THE SECOND FORM. 'bulk': how many values and letters a reading holds, each counted each time it is reached (what is shared counts as often as it is met; a slice's spare places count too). A statement '..UptoSaid' is the law's where the arguments, and the package variables that the reading takes, are together of bulk at most 1048576: NARROWER than '..Said'. Prove '..Said' where nothing that the law and all that it calls make is longer than what came in: it says more and counts as full. Else prove '..UptoSaid'. A law counts once. -/
mutual
def uptoBulk {H : Type} : DataW H → Nat
  | .lit (.string bytes) => bytes.length + 1
  | .lit _ => 1
  | .nil => 1
  | .ptr d => uptoBulk d + 1
  | .slice elems spare => uptoBulkAll elems + uptoBulkAll spare + 1
  | .agg parts => uptoBulkAll parts + 1
  | .iface _ d => uptoBulk d + 1
  | .map entries => uptoBulkEntries entries + 1
  | .held _ => 1
def uptoBulkAll {H : Type} : List (DataW H) → Nat
  | [] => 0
  | d :: r => uptoBulk d + uptoBulkAll r
def uptoBulkEntries {H : Type} : List (Lit × DataW H) → Nat
  | [] => 0
  | x :: r => uptoBulkEntry x + uptoBulkEntries r
def uptoBulkEntry {H : Type} : Lit × DataW H → Nat
  | (.string bytes, d) => bytes.length + uptoBulk d + 1
  | (_, d) => uptoBulk d + 1
 end
def uptoSmall : (H : Type) → List (DataW H) → Bool := fun _ ds => decide (uptoBulkAll ds ≤ 1048576)
def OpenSpec.upto (s : _root_.Go.ChangeSpec) : _root_.Go.OpenSpec := { _root_.Go.OpenSpec.ofChange s with cond := some uptoSmall }

/-- 'cressetlaw22.TapeLasts', WHERE WHAT IT READS IS OF BULK AT MOST 1048576: true; the input reads as it did. -/
def tapeLastsUptoRow : OpenClaim := { program := "ytgahoadojcabnaa", sum := "60ace4c3d4b0abc71898edda2dae5cdf87767c9bd48f1cf1ddf46165a8bdc811", func := "cresset/cressetlaw22.TapeLasts", spec := "tapeLasts", apart := false, narrowed := true }
def TapeLastsUptoSaid : Prop := tapeLastsUptoRow.holds Try.pinned (OpenSpec.upto tapeLastsSpec)

/-- 'cressetlaw22.TapeCut', WHERE WHAT IT READS IS OF BULK AT MOST 1048576: true; the input reads as it did. -/
def tapeCutUptoRow : OpenClaim := { program := "ytgahoadojcabnaa", sum := "60ace4c3d4b0abc71898edda2dae5cdf87767c9bd48f1cf1ddf46165a8bdc811", func := "cresset/cressetlaw22.TapeCut", spec := "tapeCut", apart := false, narrowed := true }
def TapeCutUptoSaid : Prop := tapeCutUptoRow.holds Try.pinned (OpenSpec.upto tapeCutSpec)

/-- 'cressetlaw22.TapePlays', WHERE WHAT IT READS IS OF BULK AT MOST 1048576: true; the input reads as it did. -/
def tapePlaysUptoRow : OpenClaim := { program := "ytgahoadojcabnaa", sum := "60ace4c3d4b0abc71898edda2dae5cdf87767c9bd48f1cf1ddf46165a8bdc811", func := "cresset/cressetlaw22.TapePlays", spec := "tapePlays", apart := false, narrowed := true }
def TapePlaysUptoSaid : Prop := tapePlaysUptoRow.holds Try.pinned (OpenSpec.upto tapePlaysSpec)

/-- 'cressetlaw22.TapeNil', WHERE WHAT IT READS IS OF BULK AT MOST 1048576: true; the input reads as it did. -/
def tapeNilUptoRow : OpenClaim := { program := "ytgahoadojcabnaa", sum := "60ace4c3d4b0abc71898edda2dae5cdf87767c9bd48f1cf1ddf46165a8bdc811", func := "cresset/cressetlaw22.TapeNil", spec := "tapeNil", apart := false, narrowed := true }
def TapeNilUptoSaid : Prop := tapeNilUptoRow.holds Try.pinned (OpenSpec.upto tapeNilSpec)

end Rows
end Go.Proofs.Ytgahoadojcabnaa
