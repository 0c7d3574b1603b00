/-
  No cell of these rows narrows 'for every input' (looked for: loops, veiled, ifaces, maps, wideKeys, modest, calm, conditions, laid).
  DERIVED. THE GIVEN ROWS OF THIS SEAT. 7 by the template 'for every input the law returns true; each argument reads behind the call as it read before'; 0 by the template 'total and deterministic' (their statements: YtjmlfdhddbhlpaaTotals.lean).
  GIVEN WITH THE SEED: the statements are not yours to turn. If you find one false, say at which input.
  Laid BY PROGRAM, IN A SANDBOX (cutbox-rows.mjs): the forced cells as the released guide's own fill.sh prints them over the translation 0bf83139c7ed3836… (all of the seat's roots in one cut). By AI agents, Wed Nov 11 2026. No macro, syntax, notation, axiom, sorry.
-/
import Derived.Test.YtjmlfdhddbhlpaaChecked
import GoSem.Claim
import GoSem.ClaimJoined
import GoSem.ClaimMapViews
import Derived.JoinedTies
import Derived.KernelRfl
namespace Go.Proofs.Ytjmlfdhddbhlpaa
/- THE CELL 'sum', in the pinned program and in every row, IS THE sha256 OF THE DUMP (.gsa) THAT YtjmlfdhddbhlpaaProg.lean LOADS. Nothing in Lean hashes anything: it is a label: what it is worth is what the hold of that sum in a sandbox is worth. -/
noncomputable def Try.pinned : Pinned := { name := "ytjmlfdhddbhlpaa", sum := "0bf83139c7ed383676f1bd9da5f3308b8591ada0009971ed2caaa8f1f03c2038", checked := Try.checked }
namespace Rows
def none {H : Type} : Left H := { results := [], args := [] }

/-- 'laws.FnExactOrderStrokes': WHATEVER THE INPUT: true; the input reads as it did. -/
def fnExactOrderStrokesSpec : ChangeSpec := { name := "fnExactOrderStrokes", fn := fun _ => fun
  | [d1, d2] => { results := [.lit (.bool true)], args := [d1, d2] }
  | _ => none }
def fnExactOrderStrokesRow : OpenClaim := { program := "ytjmlfdhddbhlpaa", sum := "0bf83139c7ed383676f1bd9da5f3308b8591ada0009971ed2caaa8f1f03c2038", func := "loop.example/g01249/laws.FnExactOrderStrokes", spec := "fnExactOrderStrokes", unfollowed := true, recurses := true, apart := false }
def FnExactOrderStrokesSaid : Prop := fnExactOrderStrokesRow.holds Try.pinned (OpenSpec.ofChange fnExactOrderStrokesSpec)

/-- ITS FALSE NEIGHBOUR: 'it returns false'. Refute it at one input. -/
def fnExactOrderStrokesWrong : ChangeSpec := { name := "fnExactOrderStrokes", fn := fun _ => fun
  | [d1, d2] => { results := [.lit (.bool false)], args := [d1, d2] }
  | _ => none }
def FnExactOrderStrokesWrongFalsely : Prop := fnExactOrderStrokesRow.holds Try.pinned (OpenSpec.ofChange fnExactOrderStrokesWrong)

/-- 'laws.FnExactFillLoop': WHATEVER THE INPUT: true; the input reads as it did. -/
def fnExactFillLoopSpec : ChangeSpec := { name := "fnExactFillLoop", fn := fun _ => fun
  | [d1, d2, d3] => { results := [.lit (.bool true)], args := [d1, d2, d3] }
  | _ => none }
def fnExactFillLoopRow : OpenClaim := { program := "ytjmlfdhddbhlpaa", sum := "0bf83139c7ed383676f1bd9da5f3308b8591ada0009971ed2caaa8f1f03c2038", func := "loop.example/g01249/laws.FnExactFillLoop", spec := "fnExactFillLoop", unfollowed := true, recurses := true, apart := false }
def FnExactFillLoopSaid : Prop := fnExactFillLoopRow.holds Try.pinned (OpenSpec.ofChange fnExactFillLoopSpec)

/-- ITS FALSE NEIGHBOUR: 'it returns false'. Refute it at one input. -/
def fnExactFillLoopWrong : ChangeSpec := { name := "fnExactFillLoop", fn := fun _ => fun
  | [d1, d2, d3] => { results := [.lit (.bool false)], args := [d1, d2, d3] }
  | _ => none }
def FnExactFillLoopWrongFalsely : Prop := fnExactFillLoopRow.holds Try.pinned (OpenSpec.ofChange fnExactFillLoopWrong)

/-- 'laws.FnExactSameScene': WHATEVER THE INPUT: true; the input reads as it did. -/
def fnExactSameSceneSpec : ChangeSpec := { name := "fnExactSameScene", fn := fun _ => fun
  | [d1, d2] => { results := [.lit (.bool true)], args := [d1, d2] }
  | _ => none }
def fnExactSameSceneRow : OpenClaim := { program := "ytjmlfdhddbhlpaa", sum := "0bf83139c7ed383676f1bd9da5f3308b8591ada0009971ed2caaa8f1f03c2038", func := "loop.example/g01249/laws.FnExactSameScene", spec := "fnExactSameScene", inPlace := ["math.Float32bits"], unfollowed := true, recurses := true, apart := false }
def FnExactSameSceneSaid : Prop := fnExactSameSceneRow.holds Try.pinned (OpenSpec.ofChange fnExactSameSceneSpec)

/-- ITS FALSE NEIGHBOUR: 'it returns false'. Refute it at one input. -/
def fnExactSameSceneWrong : ChangeSpec := { name := "fnExactSameScene", fn := fun _ => fun
  | [d1, d2] => { results := [.lit (.bool false)], args := [d1, d2] }
  | _ => none }
def FnExactSameSceneWrongFalsely : Prop := fnExactSameSceneRow.holds Try.pinned (OpenSpec.ofChange fnExactSameSceneWrong)

/-- 'laws.FnExactImproveOrder': WHATEVER THE INPUT: true; the input reads as it did. -/
def fnExactImproveOrderSpec : ChangeSpec := { name := "fnExactImproveOrder", fn := fun _ => fun
  | [d1, d2, d3, d4, d5] => { results := [.lit (.bool true)], args := [d1, d2, d3, d4, d5] }
  | _ => none }
def fnExactImproveOrderRow : OpenClaim := { program := "ytjmlfdhddbhlpaa", sum := "0bf83139c7ed383676f1bd9da5f3308b8591ada0009971ed2caaa8f1f03c2038", func := "loop.example/g01249/laws.FnExactImproveOrder", spec := "fnExactImproveOrder", unfollowed := true, recurses := true, apart := false }
def FnExactImproveOrderSaid : Prop := fnExactImproveOrderRow.holds Try.pinned (OpenSpec.ofChange fnExactImproveOrderSpec)

/-- ITS FALSE NEIGHBOUR: 'it returns false'. Refute it at one input. -/
def fnExactImproveOrderWrong : ChangeSpec := { name := "fnExactImproveOrder", fn := fun _ => fun
  | [d1, d2, d3, d4, d5] => { results := [.lit (.bool false)], args := [d1, d2, d3, d4, d5] }
  | _ => none }
def FnExactImproveOrderWrongFalsely : Prop := fnExactImproveOrderRow.holds Try.pinned (OpenSpec.ofChange fnExactImproveOrderWrong)

/-- 'laws.FnPens': WHATEVER THE INPUT: true; the input reads as it did. -/
def fnPensSpec : ChangeSpec := { name := "fnPens", fn := fun _ => fun
  | [d1, d2] => { results := [.lit (.bool true)], args := [d1, d2] }
  | _ => none }
def fnPensRow : OpenClaim := { program := "ytjmlfdhddbhlpaa", sum := "0bf83139c7ed383676f1bd9da5f3308b8591ada0009971ed2caaa8f1f03c2038", func := "loop.example/g01249/laws.FnPens", spec := "fnPens", unfollowed := true, recurses := true, apart := false }
def FnPensSaid : Prop := fnPensRow.holds Try.pinned (OpenSpec.ofChange fnPensSpec)

/-- ITS FALSE NEIGHBOUR: 'it returns false'. Refute it at one input. -/
def fnPensWrong : ChangeSpec := { name := "fnPens", fn := fun _ => fun
  | [d1, d2] => { results := [.lit (.bool false)], args := [d1, d2] }
  | _ => none }
def FnPensWrongFalsely : Prop := fnPensRow.holds Try.pinned (OpenSpec.ofChange fnPensWrong)

/-- 'laws.FnExactHatchLoop': WHATEVER THE INPUT: true; the input reads as it did. -/
def fnExactHatchLoopSpec : ChangeSpec := { name := "fnExactHatchLoop", fn := fun _ => fun
  | [d1, d2, d3] => { results := [.lit (.bool true)], args := [d1, d2, d3] }
  | _ => none }
def fnExactHatchLoopRow : OpenClaim := { program := "ytjmlfdhddbhlpaa", sum := "0bf83139c7ed383676f1bd9da5f3308b8591ada0009971ed2caaa8f1f03c2038", func := "loop.example/g01249/laws.FnExactHatchLoop", spec := "fnExactHatchLoop", unfollowed := true, recurses := true, apart := false }
def FnExactHatchLoopSaid : Prop := fnExactHatchLoopRow.holds Try.pinned (OpenSpec.ofChange fnExactHatchLoopSpec)

/-- ITS FALSE NEIGHBOUR: 'it returns false'. Refute it at one input. -/
def fnExactHatchLoopWrong : ChangeSpec := { name := "fnExactHatchLoop", fn := fun _ => fun
  | [d1, d2, d3] => { results := [.lit (.bool false)], args := [d1, d2, d3] }
  | _ => none }
def FnExactHatchLoopWrongFalsely : Prop := fnExactHatchLoopRow.holds Try.pinned (OpenSpec.ofChange fnExactHatchLoopWrong)

/-- 'laws.FnLoops': WHATEVER THE INPUT: true; the input reads as it did. -/
def fnLoopsSpec : ChangeSpec := { name := "fnLoops", fn := fun _ => fun
  | [d1, d2] => { results := [.lit (.bool true)], args := [d1, d2] }
  | _ => none }
def fnLoopsRow : OpenClaim := { program := "ytjmlfdhddbhlpaa", sum := "0bf83139c7ed383676f1bd9da5f3308b8591ada0009971ed2caaa8f1f03c2038", func := "loop.example/g01249/laws.FnLoops", spec := "fnLoops", unfollowed := true, recurses := true, apart := false }
def FnLoopsSaid : Prop := fnLoopsRow.holds Try.pinned (OpenSpec.ofChange fnLoopsSpec)

/-- ITS FALSE NEIGHBOUR: 'it returns false'. Refute it at one input. -/
def fnLoopsWrong : ChangeSpec := { name := "fnLoops", fn := fun _ => fun
  | [d1, d2] => { results := [.lit (.bool false)], args := [d1, d2] }
  | _ => none }
def FnLoopsWrongFalsely : Prop := fnLoopsRow.holds Try.pinned (OpenSpec.ofChange fnLoopsWrong)

/- THE SECOND FORM. 'bulk': how many values and letters a reading holds, each counted each time it is reached (what is shared counts as often as it is met; a slice's spare places count too). A statement '..UptoSaid' is the law's where the arguments, and the package variables that the reading takes, are together of bulk at most 1048576: NARROWER than '..Said'. Prove '..Said' where nothing that the law and all that it calls make is longer than what came in: it says more and counts as full. Else prove '..UptoSaid'. A law counts once. -/
mutual
def uptoBulk {H : Type} : DataW H → Nat
  | .lit (.string bytes) => bytes.length + 1
  | .lit _ => 1
  | .nil => 1
  | .ptr d => uptoBulk d + 1
  | .slice elems spare => uptoBulkAll elems + uptoBulkAll spare + 1
  | .agg parts => uptoBulkAll parts + 1
  | .iface _ d => uptoBulk d + 1
  | .map entries => uptoBulkEntries entries + 1
  | .held _ => 1
def uptoBulkAll {H : Type} : List (DataW H) → Nat
  | [] => 0
  | d :: r => uptoBulk d + uptoBulkAll r
def uptoBulkEntries {H : Type} : List (Lit × DataW H) → Nat
  | [] => 0
  | x :: r => uptoBulkEntry x + uptoBulkEntries r
def uptoBulkEntry {H : Type} : Lit × DataW H → Nat
  | (.string bytes, d) => bytes.length + uptoBulk d + 1
  | (_, d) => uptoBulk d + 1
 end
def uptoSmall : (H : Type) → List (DataW H) → Bool := fun _ ds => decide (uptoBulkAll ds ≤ 1048576)
def OpenSpec.upto (s : _root_.Go.ChangeSpec) : _root_.Go.OpenSpec := { _root_.Go.OpenSpec.ofChange s with cond := some uptoSmall }

/-- 'laws.FnExactOrderStrokes', WHERE WHAT IT READS IS OF BULK AT MOST 1048576: true; the input reads as it did. -/
def fnExactOrderStrokesUptoRow : OpenClaim := { program := "ytjmlfdhddbhlpaa", sum := "0bf83139c7ed383676f1bd9da5f3308b8591ada0009971ed2caaa8f1f03c2038", func := "loop.example/g01249/laws.FnExactOrderStrokes", spec := "fnExactOrderStrokes", unfollowed := true, recurses := true, apart := false, narrowed := true }
def FnExactOrderStrokesUptoSaid : Prop := fnExactOrderStrokesUptoRow.holds Try.pinned (OpenSpec.upto fnExactOrderStrokesSpec)

/-- 'laws.FnExactFillLoop', WHERE WHAT IT READS IS OF BULK AT MOST 1048576: true; the input reads as it did. -/
def fnExactFillLoopUptoRow : OpenClaim := { program := "ytjmlfdhddbhlpaa", sum := "0bf83139c7ed383676f1bd9da5f3308b8591ada0009971ed2caaa8f1f03c2038", func := "loop.example/g01249/laws.FnExactFillLoop", spec := "fnExactFillLoop", unfollowed := true, recurses := true, apart := false, narrowed := true }
def FnExactFillLoopUptoSaid : Prop := fnExactFillLoopUptoRow.holds Try.pinned (OpenSpec.upto fnExactFillLoopSpec)

/-- 'laws.FnExactSameScene', WHERE WHAT IT READS IS OF BULK AT MOST 1048576: true; the input reads as it did. -/
def fnExactSameSceneUptoRow : OpenClaim := { program := "ytjmlfdhddbhlpaa", sum := "0bf83139c7ed383676f1bd9da5f3308b8591ada0009971ed2caaa8f1f03c2038", func := "loop.example/g01249/laws.FnExactSameScene", spec := "fnExactSameScene", inPlace := ["math.Float32bits"], unfollowed := true, recurses := true, apart := false, narrowed := true }
def FnExactSameSceneUptoSaid : Prop := fnExactSameSceneUptoRow.holds Try.pinned (OpenSpec.upto fnExactSameSceneSpec)

/-- 'laws.FnExactImproveOrder', WHERE WHAT IT READS IS OF BULK AT MOST 1048576: true; the input reads as it did. -/
def fnExactImproveOrderUptoRow : OpenClaim := { program := "ytjmlfdhddbhlpaa", sum := "0bf83139c7ed383676f1bd9da5f3308b8591ada0009971ed2caaa8f1f03c2038", func := "loop.example/g01249/laws.FnExactImproveOrder", spec := "fnExactImproveOrder", unfollowed := true, recurses := true, apart := false, narrowed := true }
def FnExactImproveOrderUptoSaid : Prop := fnExactImproveOrderUptoRow.holds Try.pinned (OpenSpec.upto fnExactImproveOrderSpec)

/-- 'laws.FnPens', WHERE WHAT IT READS IS OF BULK AT MOST 1048576: true; the input reads as it did. -/
def fnPensUptoRow : OpenClaim := { program := "ytjmlfdhddbhlpaa", sum := "0bf83139c7ed383676f1bd9da5f3308b8591ada0009971ed2caaa8f1f03c2038", func := "loop.example/g01249/laws.FnPens", spec := "fnPens", unfollowed := true, recurses := true, apart := false, narrowed := true }
def FnPensUptoSaid : Prop := fnPensUptoRow.holds Try.pinned (OpenSpec.upto fnPensSpec)

/-- 'laws.FnExactHatchLoop', WHERE WHAT IT READS IS OF BULK AT MOST 1048576: true; the input reads as it did. -/
def fnExactHatchLoopUptoRow : OpenClaim := { program := "ytjmlfdhddbhlpaa", sum := "0bf83139c7ed383676f1bd9da5f3308b8591ada0009971ed2caaa8f1f03c2038", func := "loop.example/g01249/laws.FnExactHatchLoop", spec := "fnExactHatchLoop", unfollowed := true, recurses := true, apart := false, narrowed := true }
def FnExactHatchLoopUptoSaid : Prop := fnExactHatchLoopUptoRow.holds Try.pinned (OpenSpec.upto fnExactHatchLoopSpec)

/-- 'laws.FnLoops', WHERE WHAT IT READS IS OF BULK AT MOST 1048576: true; the input reads as it did. -/
def fnLoopsUptoRow : OpenClaim := { program := "ytjmlfdhddbhlpaa", sum := "0bf83139c7ed383676f1bd9da5f3308b8591ada0009971ed2caaa8f1f03c2038", func := "loop.example/g01249/laws.FnLoops", spec := "fnLoops", unfollowed := true, recurses := true, apart := false, narrowed := true }
def FnLoopsUptoSaid : Prop := fnLoopsUptoRow.holds Try.pinned (OpenSpec.upto fnLoopsSpec)

end Rows
end Go.Proofs.Ytjmlfdhddbhlpaa
