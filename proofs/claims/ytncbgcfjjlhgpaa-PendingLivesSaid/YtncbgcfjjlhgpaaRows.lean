/-
  No cell of these rows narrows 'for every input' (looked for: loops, veiled, ifaces, maps, wideKeys, modest, calm, conditions, laid).
  DERIVED. THE GIVEN ROWS OF THIS SEAT. 3 by the template 'for every input the law returns true; each argument reads behind the call as it read before'; 0 by the template 'total and deterministic' (their statements: YtncbgcfjjlhgpaaTotals.lean).
  GIVEN WITH THE SEED: the statements are not yours to turn. If you find one false, say at which input.
  Laid BY PROGRAM, IN A SANDBOX (cutbox-rows.mjs): the forced cells as the released guide's own fill.sh prints them over the translation cbf3d0c944cb65c3… (all of the seat's roots in one cut). By AI agents, Wed Nov 11 2026. No macro, syntax, notation, axiom, sorry.
-/
import Derived.Test.YtncbgcfjjlhgpaaChecked
import GoSem.Claim
import GoSem.ClaimJoined
import GoSem.ClaimMapViews
import Derived.JoinedTies
import Derived.KernelRfl
namespace Go.Proofs.Ytncbgcfjjlhgpaa
/- THE CELL 'sum', in the pinned program and in every row, IS THE sha256 OF THE DUMP (.gsa) THAT YtncbgcfjjlhgpaaProg.lean LOADS. Nothing in Lean hashes anything: it is a label: what it is worth is what the hold of that sum in a sandbox is worth. -/
noncomputable def Try.pinned : Pinned := { name := "ytncbgcfjjlhgpaa", sum := "cbf3d0c944cb65c391a8642bf21898ccbc73f0bbc39afdfd65e6ec3457ac7e6d", checked := Try.checked }
namespace Rows
def none {H : Type} : Left H := { results := [], args := [] }

/-- 'philtrelaw14.PendingLives': WHATEVER THE INPUT: true; the input reads as it did. -/
def pendingLivesSpec : ChangeSpec := { name := "pendingLives", fn := fun _ => fun
  | [d1, d2, d3] => { results := [.lit (.bool true)], args := [d1, d2, d3] }
  | _ => none }
def pendingLivesRow : OpenClaim := { program := "ytncbgcfjjlhgpaa", sum := "cbf3d0c944cb65c391a8642bf21898ccbc73f0bbc39afdfd65e6ec3457ac7e6d", func := "philtre/philtrelaw14.PendingLives", spec := "pendingLives", unfollowed := true, recurses := true, plainKeys := false, apart := false }
def PendingLivesSaid : Prop := pendingLivesRow.holds Try.pinned (OpenSpec.ofChange pendingLivesSpec)

/-- ITS FALSE NEIGHBOUR: 'it returns false'. Refute it at one input. -/
def pendingLivesWrong : ChangeSpec := { name := "pendingLives", fn := fun _ => fun
  | [d1, d2, d3] => { results := [.lit (.bool false)], args := [d1, d2, d3] }
  | _ => none }
def PendingLivesWrongFalsely : Prop := pendingLivesRow.holds Try.pinned (OpenSpec.ofChange pendingLivesWrong)

/-- 'philtrelaw14.PendingOrder': WHATEVER THE INPUT: true; the input reads as it did. -/
def pendingOrderSpec : ChangeSpec := { name := "pendingOrder", fn := fun _ => fun
  | [d1, d2] => { results := [.lit (.bool true)], args := [d1, d2] }
  | _ => none }
def pendingOrderRow : OpenClaim := { program := "ytncbgcfjjlhgpaa", sum := "cbf3d0c944cb65c391a8642bf21898ccbc73f0bbc39afdfd65e6ec3457ac7e6d", func := "philtre/philtrelaw14.PendingOrder", spec := "pendingOrder", unfollowed := true, recurses := true, plainKeys := false, apart := false }
def PendingOrderSaid : Prop := pendingOrderRow.holds Try.pinned (OpenSpec.ofChange pendingOrderSpec)

/-- ITS FALSE NEIGHBOUR: 'it returns false'. Refute it at one input. -/
def pendingOrderWrong : ChangeSpec := { name := "pendingOrder", fn := fun _ => fun
  | [d1, d2] => { results := [.lit (.bool false)], args := [d1, d2] }
  | _ => none }
def PendingOrderWrongFalsely : Prop := pendingOrderRow.holds Try.pinned (OpenSpec.ofChange pendingOrderWrong)

/-- 'philtrelaw14.PendingRoom': WHATEVER THE INPUT: true; the input reads as it did. -/
def pendingRoomSpec : ChangeSpec := { name := "pendingRoom", fn := fun _ => fun
  | [d1, d2, d3] => { results := [.lit (.bool true)], args := [d1, d2, d3] }
  | _ => none }
def pendingRoomRow : OpenClaim := { program := "ytncbgcfjjlhgpaa", sum := "cbf3d0c944cb65c391a8642bf21898ccbc73f0bbc39afdfd65e6ec3457ac7e6d", func := "philtre/philtrelaw14.PendingRoom", spec := "pendingRoom", unfollowed := true, recurses := true, plainKeys := false, apart := false }
def PendingRoomSaid : Prop := pendingRoomRow.holds Try.pinned (OpenSpec.ofChange pendingRoomSpec)

/-- ITS FALSE NEIGHBOUR: 'it returns false'. Refute it at one input. -/
def pendingRoomWrong : ChangeSpec := { name := "pendingRoom", fn := fun _ => fun
  | [d1, d2, d3] => { results := [.lit (.bool false)], args := [d1, d2, d3] }
  | _ => none }
def PendingRoomWrongFalsely : Prop := pendingRoomRow.holds Try.pinned (OpenSpec.ofChange pendingRoomWrong)

/- THE SECOND FORM. 'bulk': how many values and letters a reading holds, each counted each time it is reached (what is shared counts as often as it is met; a slice's spare places count too). A statement '..UptoSaid' is the law's where the arguments, and the package variables that the reading takes, are together of bulk at most 1048576: NARROWER than '..Said'. Prove '..Said' where nothing that the law and all that it calls make is longer than what came in: it says more and counts as full. Else prove '..UptoSaid'. A law counts once. -/
mutual
def uptoBulk {H : Type} : DataW H → Nat
  | .lit (.string bytes) => bytes.length + 1
  | .lit _ => 1
  | .nil => 1
  | .ptr d => uptoBulk d + 1
  | .slice elems spare => uptoBulkAll elems + uptoBulkAll spare + 1
  | .agg parts => uptoBulkAll parts + 1
  | .iface _ d => uptoBulk d + 1
  | .map entries => uptoBulkEntries entries + 1
  | .held _ => 1
def uptoBulkAll {H : Type} : List (DataW H) → Nat
  | [] => 0
  | d :: r => uptoBulk d + uptoBulkAll r
def uptoBulkEntries {H : Type} : List (Lit × DataW H) → Nat
  | [] => 0
  | x :: r => uptoBulkEntry x + uptoBulkEntries r
def uptoBulkEntry {H : Type} : Lit × DataW H → Nat
  | (.string bytes, d) => bytes.length + uptoBulk d + 1
  | (_, d) => uptoBulk d + 1
 end
def uptoSmall : (H : Type) → List (DataW H) → Bool := fun _ ds => decide (uptoBulkAll ds ≤ 1048576)
def OpenSpec.upto (s : _root_.Go.ChangeSpec) : _root_.Go.OpenSpec := { _root_.Go.OpenSpec.ofChange s with cond := some uptoSmall }

/-- 'philtrelaw14.PendingLives', WHERE WHAT IT READS IS OF BULK AT MOST 1048576: true; the input reads as it did. -/
def pendingLivesUptoRow : OpenClaim := { program := "ytncbgcfjjlhgpaa", sum := "cbf3d0c944cb65c391a8642bf21898ccbc73f0bbc39afdfd65e6ec3457ac7e6d", func := "philtre/philtrelaw14.PendingLives", spec := "pendingLives", unfollowed := true, recurses := true, plainKeys := false, apart := false, narrowed := true }
def PendingLivesUptoSaid : Prop := pendingLivesUptoRow.holds Try.pinned (OpenSpec.upto pendingLivesSpec)

/-- 'philtrelaw14.PendingOrder', WHERE WHAT IT READS IS OF BULK AT MOST 1048576: true; the input reads as it did. -/
def pendingOrderUptoRow : OpenClaim := { program := "ytncbgcfjjlhgpaa", sum := "cbf3d0c944cb65c391a8642bf21898ccbc73f0bbc39afdfd65e6ec3457ac7e6d", func := "philtre/philtrelaw14.PendingOrder", spec := "pendingOrder", unfollowed := true, recurses := true, plainKeys := false, apart := false, narrowed := true }
def PendingOrderUptoSaid : Prop := pendingOrderUptoRow.holds Try.pinned (OpenSpec.upto pendingOrderSpec)

/-- 'philtrelaw14.PendingRoom', WHERE WHAT IT READS IS OF BULK AT MOST 1048576: true; the input reads as it did. -/
def pendingRoomUptoRow : OpenClaim := { program := "ytncbgcfjjlhgpaa", sum := "cbf3d0c944cb65c391a8642bf21898ccbc73f0bbc39afdfd65e6ec3457ac7e6d", func := "philtre/philtrelaw14.PendingRoom", spec := "pendingRoom", unfollowed := true, recurses := true, plainKeys := false, apart := false, narrowed := true }
def PendingRoomUptoSaid : Prop := pendingRoomUptoRow.holds Try.pinned (OpenSpec.upto pendingRoomSpec)

end Rows
end Go.Proofs.Ytncbgcfjjlhgpaa
