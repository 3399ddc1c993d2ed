/-
  No cell of these rows narrows 'for every input' (looked for: loops, veiled, ifaces, maps, wideKeys, modest, calm, conditions, laid).
  DERIVED. THE GIVEN ROWS OF THIS SEAT. 9 by the template 'for every input the law returns true; each argument reads behind the call as it read before'; 0 by the template 'total and deterministic' (their statements: YtgdmkiobidnhnaaTotals.lean).
  GIVEN WITH THE SEED: the statements are not yours to turn. If you find one false, say at which input.
  Laid BY PROGRAM, IN A SANDBOX (cutbox-rows.mjs): the forced cells as the released guide's own fill.sh prints them over the translation d506ebcfd705e006… (all of the seat's roots in one cut). By AI agents, Wed Nov 11 2026. No macro, syntax, notation, axiom, sorry.
-/
import Derived.Test.YtgdmkiobidnhnaaChecked
import GoSem.Claim
import GoSem.ClaimJoined
import GoSem.ClaimMapViews
import Derived.JoinedTies
import Derived.KernelRfl
namespace Go.Proofs.Ytgdmkiobidnhnaa
/- THE CELL 'sum', in the pinned program and in every row, IS THE sha256 OF THE DUMP (.gsa) THAT YtgdmkiobidnhnaaProg.lean LOADS. Nothing in Lean hashes anything: it is a label: what it is worth is what the hold of that sum in a sandbox is worth. -/
noncomputable def Try.pinned : Pinned := { name := "ytgdmkiobidnhnaa", sum := "d506ebcfd705e006cfdc5569fc9dfa461f5799d58b6c9d870a8230c17d0a7ddd", checked := Try.checked }
namespace Rows
def none {H : Type} : Left H := { results := [], args := [] }

/-- 'philtrelaw06.TableLives': WHATEVER THE INPUT: true; the input reads as it did. -/
def tableLivesSpec : ChangeSpec := { name := "tableLives", fn := fun _ => fun
  | [d] => { results := [.lit (.bool true)], args := [d] }
  | _ => none }
def tableLivesRow : OpenClaim := { program := "ytgdmkiobidnhnaa", sum := "d506ebcfd705e006cfdc5569fc9dfa461f5799d58b6c9d870a8230c17d0a7ddd", func := "philtre/philtrelaw06.TableLives", spec := "tableLives", inPlace := ["slices.overlaps[string]"], unfollowed := true, recurses := true, apart := false }
def TableLivesSaid : Prop := tableLivesRow.holds Try.pinned (OpenSpec.ofChange tableLivesSpec)

/-- ITS FALSE NEIGHBOUR: 'it returns false'. Refute it at one input. -/
def tableLivesWrong : ChangeSpec := { name := "tableLives", fn := fun _ => fun
  | [d] => { results := [.lit (.bool false)], args := [d] }
  | _ => none }
def TableLivesWrongFalsely : Prop := tableLivesRow.holds Try.pinned (OpenSpec.ofChange tableLivesWrong)

/-- 'philtrelaw06.TableCopies': WHATEVER THE INPUT: true; the input reads as it did. -/
def tableCopiesSpec : ChangeSpec := { name := "tableCopies", fn := fun _ => fun
  | [d1, d2] => { results := [.lit (.bool true)], args := [d1, d2] }
  | _ => none }
def tableCopiesRow : OpenClaim := { program := "ytgdmkiobidnhnaa", sum := "d506ebcfd705e006cfdc5569fc9dfa461f5799d58b6c9d870a8230c17d0a7ddd", func := "philtre/philtrelaw06.TableCopies", spec := "tableCopies", inPlace := ["slices.overlaps[string]"], unfollowed := true, recurses := true, apart := false }
def TableCopiesSaid : Prop := tableCopiesRow.holds Try.pinned (OpenSpec.ofChange tableCopiesSpec)

/-- ITS FALSE NEIGHBOUR: 'it returns false'. Refute it at one input. -/
def tableCopiesWrong : ChangeSpec := { name := "tableCopies", fn := fun _ => fun
  | [d1, d2] => { results := [.lit (.bool false)], args := [d1, d2] }
  | _ => none }
def TableCopiesWrongFalsely : Prop := tableCopiesRow.holds Try.pinned (OpenSpec.ofChange tableCopiesWrong)

/-- 'philtrelaw06.TableRanges': WHATEVER THE INPUT: true; the input reads as it did. -/
def tableRangesSpec : ChangeSpec := { name := "tableRanges", fn := fun _ => fun
  | [d1, d2, d3] => { results := [.lit (.bool true)], args := [d1, d2, d3] }
  | _ => none }
def tableRangesRow : OpenClaim := { program := "ytgdmkiobidnhnaa", sum := "d506ebcfd705e006cfdc5569fc9dfa461f5799d58b6c9d870a8230c17d0a7ddd", func := "philtre/philtrelaw06.TableRanges", spec := "tableRanges", inPlace := ["slices.overlaps[string]"], unfollowed := true, recurses := true, apart := false }
def TableRangesSaid : Prop := tableRangesRow.holds Try.pinned (OpenSpec.ofChange tableRangesSpec)

/-- ITS FALSE NEIGHBOUR: 'it returns false'. Refute it at one input. -/
def tableRangesWrong : ChangeSpec := { name := "tableRanges", fn := fun _ => fun
  | [d1, d2, d3] => { results := [.lit (.bool false)], args := [d1, d2, d3] }
  | _ => none }
def TableRangesWrongFalsely : Prop := tableRangesRow.holds Try.pinned (OpenSpec.ofChange tableRangesWrong)

/-- 'philtrelaw08.StepKeys': WHATEVER THE INPUT: true; the input reads as it did. -/
def stepKeysSpec : ChangeSpec := { name := "stepKeys", fn := fun _ => fun
  | [d] => { results := [.lit (.bool true)], args := [d] }
  | _ => none }
def stepKeysRow : OpenClaim := { program := "ytgdmkiobidnhnaa", sum := "d506ebcfd705e006cfdc5569fc9dfa461f5799d58b6c9d870a8230c17d0a7ddd", func := "philtre/philtrelaw08.StepKeys", spec := "stepKeys", inPlace := ["slices.overlaps[string]", "slices.overlaps[int]"], unfollowed := true, recurses := true, apart := false }
def StepKeysSaid : Prop := stepKeysRow.holds Try.pinned (OpenSpec.ofChange stepKeysSpec)

/-- ITS FALSE NEIGHBOUR: 'it returns false'. Refute it at one input. -/
def stepKeysWrong : ChangeSpec := { name := "stepKeys", fn := fun _ => fun
  | [d] => { results := [.lit (.bool false)], args := [d] }
  | _ => none }
def StepKeysWrongFalsely : Prop := stepKeysRow.holds Try.pinned (OpenSpec.ofChange stepKeysWrong)

/-- 'philtrelaw08.StepParts': WHATEVER THE INPUT: true; the input reads as it did. -/
def stepPartsSpec : ChangeSpec := { name := "stepParts", fn := fun _ => fun
  | [d] => { results := [.lit (.bool true)], args := [d] }
  | _ => none }
def stepPartsRow : OpenClaim := { program := "ytgdmkiobidnhnaa", sum := "d506ebcfd705e006cfdc5569fc9dfa461f5799d58b6c9d870a8230c17d0a7ddd", func := "philtre/philtrelaw08.StepParts", spec := "stepParts", inPlace := ["slices.overlaps[string]", "slices.overlaps[int]"], unfollowed := true, recurses := true, apart := false }
def StepPartsSaid : Prop := stepPartsRow.holds Try.pinned (OpenSpec.ofChange stepPartsSpec)

/-- ITS FALSE NEIGHBOUR: 'it returns false'. Refute it at one input. -/
def stepPartsWrong : ChangeSpec := { name := "stepParts", fn := fun _ => fun
  | [d] => { results := [.lit (.bool false)], args := [d] }
  | _ => none }
def StepPartsWrongFalsely : Prop := stepPartsRow.holds Try.pinned (OpenSpec.ofChange stepPartsWrong)

/-- 'philtrelaw08.StepLooks': WHATEVER THE INPUT: true; the input reads as it did. -/
def stepLooksSpec : ChangeSpec := { name := "stepLooks", fn := fun _ => fun
  | [d1, d2] => { results := [.lit (.bool true)], args := [d1, d2] }
  | _ => none }
def stepLooksRow : OpenClaim := { program := "ytgdmkiobidnhnaa", sum := "d506ebcfd705e006cfdc5569fc9dfa461f5799d58b6c9d870a8230c17d0a7ddd", func := "philtre/philtrelaw08.StepLooks", spec := "stepLooks", inPlace := ["slices.overlaps[string]", "slices.overlaps[int]"], unfollowed := true, recurses := true, apart := false }
def StepLooksSaid : Prop := stepLooksRow.holds Try.pinned (OpenSpec.ofChange stepLooksSpec)

/-- ITS FALSE NEIGHBOUR: 'it returns false'. Refute it at one input. -/
def stepLooksWrong : ChangeSpec := { name := "stepLooks", fn := fun _ => fun
  | [d1, d2] => { results := [.lit (.bool false)], args := [d1, d2] }
  | _ => none }
def StepLooksWrongFalsely : Prop := stepLooksRow.holds Try.pinned (OpenSpec.ofChange stepLooksWrong)

/-- 'philtrelaw07.StateBack': WHATEVER THE INPUT: true; the input reads as it did. -/
def stateBackSpec : ChangeSpec := { name := "stateBack", fn := fun _ => fun
  | [d1, d2] => { results := [.lit (.bool true)], args := [d1, d2] }
  | _ => none }
def stateBackRow : OpenClaim := { program := "ytgdmkiobidnhnaa", sum := "d506ebcfd705e006cfdc5569fc9dfa461f5799d58b6c9d870a8230c17d0a7ddd", func := "philtre/philtrelaw07.StateBack", spec := "stateBack", inPlace := ["slices.overlaps[string]"], unfollowed := true, recurses := true, apart := false }
def StateBackSaid : Prop := stateBackRow.holds Try.pinned (OpenSpec.ofChange stateBackSpec)

/-- ITS FALSE NEIGHBOUR: 'it returns false'. Refute it at one input. -/
def stateBackWrong : ChangeSpec := { name := "stateBack", fn := fun _ => fun
  | [d1, d2] => { results := [.lit (.bool false)], args := [d1, d2] }
  | _ => none }
def StateBackWrongFalsely : Prop := stateBackRow.holds Try.pinned (OpenSpec.ofChange stateBackWrong)

/-- 'philtrelaw07.StateLeast': WHATEVER THE INPUT: true; the input reads as it did. -/
def stateLeastSpec : ChangeSpec := { name := "stateLeast", fn := fun _ => fun
  | [d1, d2, d3] => { results := [.lit (.bool true)], args := [d1, d2, d3] }
  | _ => none }
def stateLeastRow : OpenClaim := { program := "ytgdmkiobidnhnaa", sum := "d506ebcfd705e006cfdc5569fc9dfa461f5799d58b6c9d870a8230c17d0a7ddd", func := "philtre/philtrelaw07.StateLeast", spec := "stateLeast", inPlace := ["slices.overlaps[string]"], unfollowed := true, recurses := true, apart := false }
def StateLeastSaid : Prop := stateLeastRow.holds Try.pinned (OpenSpec.ofChange stateLeastSpec)

/-- ITS FALSE NEIGHBOUR: 'it returns false'. Refute it at one input. -/
def stateLeastWrong : ChangeSpec := { name := "stateLeast", fn := fun _ => fun
  | [d1, d2, d3] => { results := [.lit (.bool false)], args := [d1, d2, d3] }
  | _ => none }
def StateLeastWrongFalsely : Prop := stateLeastRow.holds Try.pinned (OpenSpec.ofChange stateLeastWrong)

/-- 'philtrelaw07.StateTells': WHATEVER THE INPUT: true; the input reads as it did. -/
def stateTellsSpec : ChangeSpec := { name := "stateTells", fn := fun _ => fun
  | [d1, d2, d3] => { results := [.lit (.bool true)], args := [d1, d2, d3] }
  | _ => none }
def stateTellsRow : OpenClaim := { program := "ytgdmkiobidnhnaa", sum := "d506ebcfd705e006cfdc5569fc9dfa461f5799d58b6c9d870a8230c17d0a7ddd", func := "philtre/philtrelaw07.StateTells", spec := "stateTells", inPlace := ["slices.overlaps[string]"], unfollowed := true, recurses := true, apart := false }
def StateTellsSaid : Prop := stateTellsRow.holds Try.pinned (OpenSpec.ofChange stateTellsSpec)

/-- ITS FALSE NEIGHBOUR: 'it returns false'. Refute it at one input. -/
def stateTellsWrong : ChangeSpec := { name := "stateTells", fn := fun _ => fun
  | [d1, d2, d3] => { results := [.lit (.bool false)], args := [d1, d2, d3] }
  | _ => none }
def StateTellsWrongFalsely : Prop := stateTellsRow.holds Try.pinned (OpenSpec.ofChange stateTellsWrong)

/- THE SECOND FORM. 'bulk': how many values and letters a reading holds, each counted each time it is reached (what is shared counts as often as it is met; a slice's spare places count too). A statement '..UptoSaid' is the law's where the arguments, and the package variables that the reading takes, are together of bulk at most 1048576: NARROWER than '..Said'. Prove '..Said' where nothing that the law and all that it calls make is longer than what came in: it says more and counts as full. Else prove '..UptoSaid'. A law counts once. -/
mutual
def uptoBulk {H : Type} : DataW H → Nat
  | .lit (.string bytes) => bytes.length + 1
  | .lit _ => 1
  | .nil => 1
  | .ptr d => uptoBulk d + 1
  | .slice elems spare => uptoBulkAll elems + uptoBulkAll spare + 1
  | .agg parts => uptoBulkAll parts + 1
  | .iface _ d => uptoBulk d + 1
  | .map entries => uptoBulkEntries entries + 1
  | .held _ => 1
def uptoBulkAll {H : Type} : List (DataW H) → Nat
  | [] => 0
  | d :: r => uptoBulk d + uptoBulkAll r
def uptoBulkEntries {H : Type} : List (Lit × DataW H) → Nat
  | [] => 0
  | x :: r => uptoBulkEntry x + uptoBulkEntries r
def uptoBulkEntry {H : Type} : Lit × DataW H → Nat
  | (.string bytes, d) => bytes.length + uptoBulk d + 1
  | (_, d) => uptoBulk d + 1
 end
def uptoSmall : (H : Type) → List (DataW H) → Bool := fun _ ds => decide (uptoBulkAll ds ≤ 1048576)
def OpenSpec.upto (s : _root_.Go.ChangeSpec) : _root_.Go.OpenSpec := { _root_.Go.OpenSpec.ofChange s with cond := some uptoSmall }

/-- 'philtrelaw06.TableLives', WHERE WHAT IT READS IS OF BULK AT MOST 1048576: true; the input reads as it did. -/
def tableLivesUptoRow : OpenClaim := { program := "ytgdmkiobidnhnaa", sum := "d506ebcfd705e006cfdc5569fc9dfa461f5799d58b6c9d870a8230c17d0a7ddd", func := "philtre/philtrelaw06.TableLives", spec := "tableLives", inPlace := ["slices.overlaps[string]"], unfollowed := true, recurses := true, apart := false, narrowed := true }
def TableLivesUptoSaid : Prop := tableLivesUptoRow.holds Try.pinned (OpenSpec.upto tableLivesSpec)

/-- 'philtrelaw06.TableCopies', WHERE WHAT IT READS IS OF BULK AT MOST 1048576: true; the input reads as it did. -/
def tableCopiesUptoRow : OpenClaim := { program := "ytgdmkiobidnhnaa", sum := "d506ebcfd705e006cfdc5569fc9dfa461f5799d58b6c9d870a8230c17d0a7ddd", func := "philtre/philtrelaw06.TableCopies", spec := "tableCopies", inPlace := ["slices.overlaps[string]"], unfollowed := true, recurses := true, apart := false, narrowed := true }
def TableCopiesUptoSaid : Prop := tableCopiesUptoRow.holds Try.pinned (OpenSpec.upto tableCopiesSpec)

/-- 'philtrelaw06.TableRanges', WHERE WHAT IT READS IS OF BULK AT MOST 1048576: true; the input reads as it did. -/
def tableRangesUptoRow : OpenClaim := { program := "ytgdmkiobidnhnaa", sum := "d506ebcfd705e006cfdc5569fc9dfa461f5799d58b6c9d870a8230c17d0a7ddd", func := "philtre/philtrelaw06.TableRanges", spec := "tableRanges", inPlace := ["slices.overlaps[string]"], unfollowed := true, recurses := true, apart := false, narrowed := true }
def TableRangesUptoSaid : Prop := tableRangesUptoRow.holds Try.pinned (OpenSpec.upto tableRangesSpec)

/-- 'philtrelaw08.StepKeys', WHERE WHAT IT READS IS OF BULK AT MOST 1048576: true; the input reads as it did. -/
def stepKeysUptoRow : OpenClaim := { program := "ytgdmkiobidnhnaa", sum := "d506ebcfd705e006cfdc5569fc9dfa461f5799d58b6c9d870a8230c17d0a7ddd", func := "philtre/philtrelaw08.StepKeys", spec := "stepKeys", inPlace := ["slices.overlaps[string]", "slices.overlaps[int]"], unfollowed := true, recurses := true, apart := false, narrowed := true }
def StepKeysUptoSaid : Prop := stepKeysUptoRow.holds Try.pinned (OpenSpec.upto stepKeysSpec)

/-- 'philtrelaw08.StepParts', WHERE WHAT IT READS IS OF BULK AT MOST 1048576: true; the input reads as it did. -/
def stepPartsUptoRow : OpenClaim := { program := "ytgdmkiobidnhnaa", sum := "d506ebcfd705e006cfdc5569fc9dfa461f5799d58b6c9d870a8230c17d0a7ddd", func := "philtre/philtrelaw08.StepParts", spec := "stepParts", inPlace := ["slices.overlaps[string]", "slices.overlaps[int]"], unfollowed := true, recurses := true, apart := false, narrowed := true }
def StepPartsUptoSaid : Prop := stepPartsUptoRow.holds Try.pinned (OpenSpec.upto stepPartsSpec)

/-- 'philtrelaw08.StepLooks', WHERE WHAT IT READS IS OF BULK AT MOST 1048576: true; the input reads as it did. -/
def stepLooksUptoRow : OpenClaim := { program := "ytgdmkiobidnhnaa", sum := "d506ebcfd705e006cfdc5569fc9dfa461f5799d58b6c9d870a8230c17d0a7ddd", func := "philtre/philtrelaw08.StepLooks", spec := "stepLooks", inPlace := ["slices.overlaps[string]", "slices.overlaps[int]"], unfollowed := true, recurses := true, apart := false, narrowed := true }
def StepLooksUptoSaid : Prop := stepLooksUptoRow.holds Try.pinned (OpenSpec.upto stepLooksSpec)

/-- 'philtrelaw07.StateBack', WHERE WHAT IT READS IS OF BULK AT MOST 1048576: true; the input reads as it did. -/
def stateBackUptoRow : OpenClaim := { program := "ytgdmkiobidnhnaa", sum := "d506ebcfd705e006cfdc5569fc9dfa461f5799d58b6c9d870a8230c17d0a7ddd", func := "philtre/philtrelaw07.StateBack", spec := "stateBack", inPlace := ["slices.overlaps[string]"], unfollowed := true, recurses := true, apart := false, narrowed := true }
def StateBackUptoSaid : Prop := stateBackUptoRow.holds Try.pinned (OpenSpec.upto stateBackSpec)

/-- 'philtrelaw07.StateLeast', WHERE WHAT IT READS IS OF BULK AT MOST 1048576: true; the input reads as it did. -/
def stateLeastUptoRow : OpenClaim := { program := "ytgdmkiobidnhnaa", sum := "d506ebcfd705e006cfdc5569fc9dfa461f5799d58b6c9d870a8230c17d0a7ddd", func := "philtre/philtrelaw07.StateLeast", spec := "stateLeast", inPlace := ["slices.overlaps[string]"], unfollowed := true, recurses := true, apart := false, narrowed := true }
def StateLeastUptoSaid : Prop := stateLeastUptoRow.holds Try.pinned (OpenSpec.upto stateLeastSpec)

/-- 'philtrelaw07.StateTells', WHERE WHAT IT READS IS OF BULK AT MOST 1048576: true; the input reads as it did. -/
def stateTellsUptoRow : OpenClaim := { program := "ytgdmkiobidnhnaa", sum := "d506ebcfd705e006cfdc5569fc9dfa461f5799d58b6c9d870a8230c17d0a7ddd", func := "philtre/philtrelaw07.StateTells", spec := "stateTells", inPlace := ["slices.overlaps[string]"], unfollowed := true, recurses := true, apart := false, narrowed := true }
def StateTellsUptoSaid : Prop := stateTellsUptoRow.holds Try.pinned (OpenSpec.upto stateTellsSpec)

end Rows
end Go.Proofs.Ytgdmkiobidnhnaa
