/-
  No cell of these rows narrows 'for every input' (looked for: loops, veiled, ifaces, maps, wideKeys, modest, calm, conditions, laid).
  DERIVED. THE GIVEN ROWS OF THIS SEAT. 3 by the template 'for every input the law returns true; each argument reads behind the call as it read before'; 0 by the template 'total and deterministic' (their statements: YtiebjjhjjifepaaTotals.lean).
  GIVEN WITH THE SEED: the statements are not yours to turn. If you find one false, say at which input.
  Laid BY PROGRAM, IN A SANDBOX (cutbox-rows.mjs): the forced cells as the released guide's own fill.sh prints them over the translation 6f6708346dd682c9… (all of the seat's roots in one cut). By AI agents, Wed Nov 11 2026. No macro, syntax, notation, axiom, sorry.
-/
import Derived.Test.YtiebjjhjjifepaaChecked
import GoSem.Claim
import GoSem.ClaimJoined
import GoSem.ClaimMapViews
import Derived.JoinedTies
import Derived.KernelRfl
namespace Go.Proofs.Ytiebjjhjjifepaa
/- THE CELL 'sum', in the pinned program and in every row, IS THE sha256 OF THE DUMP (.gsa) THAT YtiebjjhjjifepaaProg.lean LOADS. Nothing in Lean hashes anything: it is a label: what it is worth is what the hold of that sum in a sandbox is worth. -/
noncomputable def Try.pinned : Pinned := { name := "ytiebjjhjjifepaa", sum := "6f6708346dd682c946ac025ab033ea1a1d053e7c908491c3f722bea8b62dc57d", checked := Try.checked }
namespace Rows
def none {H : Type} : Left H := { results := [], args := [] }

/-- 'philtrelaw05.StirStep': WHATEVER THE INPUT: true; the input reads as it did. -/
def stirStepSpec : ChangeSpec := { name := "stirStep", fn := fun _ => fun
  | [d1, d2, d3] => { results := [.lit (.bool true)], args := [d1, d2, d3] }
  | _ => none }
def stirStepRow : OpenClaim := { program := "ytiebjjhjjifepaa", sum := "6f6708346dd682c946ac025ab033ea1a1d053e7c908491c3f722bea8b62dc57d", func := "philtre/philtrelaw05.StirStep", spec := "stirStep", unfollowed := true, recurses := true, apart := false }
def StirStepSaid : Prop := stirStepRow.holds Try.pinned (OpenSpec.ofChange stirStepSpec)

/-- ITS FALSE NEIGHBOUR: 'it returns false'. Refute it at one input. -/
def stirStepWrong : ChangeSpec := { name := "stirStep", fn := fun _ => fun
  | [d1, d2, d3] => { results := [.lit (.bool false)], args := [d1, d2, d3] }
  | _ => none }
def StirStepWrongFalsely : Prop := stirStepRow.holds Try.pinned (OpenSpec.ofChange stirStepWrong)

/-- 'philtrelaw05.StirTells': WHATEVER THE INPUT: true; the input reads as it did. -/
def stirTellsSpec : ChangeSpec := { name := "stirTells", fn := fun _ => fun
  | [d1, d2, d3] => { results := [.lit (.bool true)], args := [d1, d2, d3] }
  | _ => none }
def stirTellsRow : OpenClaim := { program := "ytiebjjhjjifepaa", sum := "6f6708346dd682c946ac025ab033ea1a1d053e7c908491c3f722bea8b62dc57d", func := "philtre/philtrelaw05.StirTells", spec := "stirTells", unfollowed := true, recurses := true, apart := false }
def StirTellsSaid : Prop := stirTellsRow.holds Try.pinned (OpenSpec.ofChange stirTellsSpec)

/-- ITS FALSE NEIGHBOUR: 'it returns false'. Refute it at one input. -/
def stirTellsWrong : ChangeSpec := { name := "stirTells", fn := fun _ => fun
  | [d1, d2, d3] => { results := [.lit (.bool false)], args := [d1, d2, d3] }
  | _ => none }
def StirTellsWrongFalsely : Prop := stirTellsRow.holds Try.pinned (OpenSpec.ofChange stirTellsWrong)

/-- 'philtrelaw05.StirWay': WHATEVER THE INPUT: true; the input reads as it did. -/
def stirWaySpec : ChangeSpec := { name := "stirWay", fn := fun _ => fun
  | [d1, d2] => { results := [.lit (.bool true)], args := [d1, d2] }
  | _ => none }
def stirWayRow : OpenClaim := { program := "ytiebjjhjjifepaa", sum := "6f6708346dd682c946ac025ab033ea1a1d053e7c908491c3f722bea8b62dc57d", func := "philtre/philtrelaw05.StirWay", spec := "stirWay", unfollowed := true, recurses := true, apart := false }
def StirWaySaid : Prop := stirWayRow.holds Try.pinned (OpenSpec.ofChange stirWaySpec)

/-- ITS FALSE NEIGHBOUR: 'it returns false'. Refute it at one input. -/
def stirWayWrong : ChangeSpec := { name := "stirWay", fn := fun _ => fun
  | [d1, d2] => { results := [.lit (.bool false)], args := [d1, d2] }
  | _ => none }
def StirWayWrongFalsely : Prop := stirWayRow.holds Try.pinned (OpenSpec.ofChange stirWayWrong)

/- THE SECOND FORM. 'bulk': how many values and letters a reading holds, each counted each time it is reached (what is shared counts as often as it is met; a slice's spare places count too). A statement '..UptoSaid' is the law's where the arguments, and the package variables that the reading takes, are together of bulk at most 1048576: NARROWER than '..Said'. Prove '..Said' where nothing that the law and all that it calls make is longer than what came in: it says more and counts as full. Else prove '..UptoSaid'. A law counts once. -/
mutual
def uptoBulk {H : Type} : DataW H → Nat
  | .lit (.string bytes) => bytes.length + 1
  | .lit _ => 1
  | .nil => 1
  | .ptr d => uptoBulk d + 1
  | .slice elems spare => uptoBulkAll elems + uptoBulkAll spare + 1
  | .agg parts => uptoBulkAll parts + 1
  | .iface _ d => uptoBulk d + 1
  | .map entries => uptoBulkEntries entries + 1
  | .held _ => 1
def uptoBulkAll {H : Type} : List (DataW H) → Nat
  | [] => 0
  | d :: r => uptoBulk d + uptoBulkAll r
def uptoBulkEntries {H : Type} : List (Lit × DataW H) → Nat
  | [] => 0
  | x :: r => uptoBulkEntry x + uptoBulkEntries r
def uptoBulkEntry {H : Type} : Lit × DataW H → Nat
  | (.string bytes, d) => bytes.length + uptoBulk d + 1
  | (_, d) => uptoBulk d + 1
 end
def uptoSmall : (H : Type) → List (DataW H) → Bool := fun _ ds => decide (uptoBulkAll ds ≤ 1048576)
def OpenSpec.upto (s : _root_.Go.ChangeSpec) : _root_.Go.OpenSpec := { _root_.Go.OpenSpec.ofChange s with cond := some uptoSmall }

/-- 'philtrelaw05.StirStep', WHERE WHAT IT READS IS OF BULK AT MOST 1048576: true; the input reads as it did. -/
def stirStepUptoRow : OpenClaim := { program := "ytiebjjhjjifepaa", sum := "6f6708346dd682c946ac025ab033ea1a1d053e7c908491c3f722bea8b62dc57d", func := "philtre/philtrelaw05.StirStep", spec := "stirStep", unfollowed := true, recurses := true, apart := false, narrowed := true }
def StirStepUptoSaid : Prop := stirStepUptoRow.holds Try.pinned (OpenSpec.upto stirStepSpec)

/-- 'philtrelaw05.StirTells', WHERE WHAT IT READS IS OF BULK AT MOST 1048576: true; the input reads as it did. -/
def stirTellsUptoRow : OpenClaim := { program := "ytiebjjhjjifepaa", sum := "6f6708346dd682c946ac025ab033ea1a1d053e7c908491c3f722bea8b62dc57d", func := "philtre/philtrelaw05.StirTells", spec := "stirTells", unfollowed := true, recurses := true, apart := false, narrowed := true }
def StirTellsUptoSaid : Prop := stirTellsUptoRow.holds Try.pinned (OpenSpec.upto stirTellsSpec)

/-- 'philtrelaw05.StirWay', WHERE WHAT IT READS IS OF BULK AT MOST 1048576: true; the input reads as it did. -/
def stirWayUptoRow : OpenClaim := { program := "ytiebjjhjjifepaa", sum := "6f6708346dd682c946ac025ab033ea1a1d053e7c908491c3f722bea8b62dc57d", func := "philtre/philtrelaw05.StirWay", spec := "stirWay", unfollowed := true, recurses := true, apart := false, narrowed := true }
def StirWayUptoSaid : Prop := stirWayUptoRow.holds Try.pinned (OpenSpec.upto stirWaySpec)

end Rows
end Go.Proofs.Ytiebjjhjjifepaa
