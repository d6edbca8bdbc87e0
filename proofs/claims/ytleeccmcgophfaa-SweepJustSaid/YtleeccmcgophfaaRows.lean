/-
  No cell of these rows narrows 'for every input' (looked for: loops, veiled, ifaces, maps, wideKeys, modest, calm, conditions, laid).
  DERIVED. THE GIVEN ROWS OF THIS SEAT. 3 by the template 'for every input the law returns true; each argument reads behind the call as it read before'; 0 by the template 'total and deterministic' (their statements: YtleeccmcgophfaaTotals.lean).
  GIVEN WITH THE SEED: the statements are not yours to turn. If you find one false, say at which input.
  Laid BY PROGRAM, IN A SANDBOX (cutbox-rows.mjs): the forced cells as the released guide's own fill.sh prints them over the translation c6a8b94fc2e3a948… (all of the seat's roots in one cut). By AI agents, Wed Nov 11 2026. No macro, syntax, notation, axiom, sorry.
-/
import Derived.Test.YtleeccmcgophfaaChecked
import GoSem.Claim
import GoSem.ClaimJoined
import GoSem.ClaimMapViews
import Derived.JoinedTies
import Derived.KernelRfl
namespace Go.Proofs.Ytleeccmcgophfaa
/- THE CELL 'sum', in the pinned program and in every row, IS THE sha256 OF THE DUMP (.gsa) THAT YtleeccmcgophfaaProg.lean LOADS. Nothing in Lean hashes anything: it is a label: what it is worth is what the hold of that sum in a sandbox is worth. -/
noncomputable def Try.pinned : Pinned := { name := "ytleeccmcgophfaa", sum := "c6a8b94fc2e3a948a98c8ecfa9c7b0be513d085f9025f1d1a3443427dde682aa", checked := Try.checked }
namespace Rows
def none {H : Type} : Left H := { results := [], args := [] }

/-- 'curtilagelaw15.SweepJust': WHATEVER THE INPUT: true; the input reads as it did. -/
def sweepJustSpec : ChangeSpec := { name := "sweepJust", fn := fun _ => fun
  | [d1, d2, d3] => { results := [.lit (.bool true)], args := [d1, d2, d3] }
  | _ => none }
def sweepJustRow : OpenClaim := { program := "ytleeccmcgophfaa", sum := "c6a8b94fc2e3a948a98c8ecfa9c7b0be513d085f9025f1d1a3443427dde682aa", func := "curtilage/curtilagelaw15.SweepJust", spec := "sweepJust", inPlace := ["slices.overlaps[curtilage/api.Object]"], unfollowed := true, recurses := true, apart := false }
def SweepJustSaid : Prop := sweepJustRow.holds Try.pinned (OpenSpec.ofChange sweepJustSpec)

/-- ITS FALSE NEIGHBOUR: 'it returns false'. Refute it at one input. -/
def sweepJustWrong : ChangeSpec := { name := "sweepJust", fn := fun _ => fun
  | [d1, d2, d3] => { results := [.lit (.bool false)], args := [d1, d2, d3] }
  | _ => none }
def SweepJustWrongFalsely : Prop := sweepJustRow.holds Try.pinned (OpenSpec.ofChange sweepJustWrong)

/-- 'curtilagelaw15.SweepFound': WHATEVER THE INPUT: true; the input reads as it did. -/
def sweepFoundSpec : ChangeSpec := { name := "sweepFound", fn := fun _ => fun
  | [d1, d2, d3] => { results := [.lit (.bool true)], args := [d1, d2, d3] }
  | _ => none }
def sweepFoundRow : OpenClaim := { program := "ytleeccmcgophfaa", sum := "c6a8b94fc2e3a948a98c8ecfa9c7b0be513d085f9025f1d1a3443427dde682aa", func := "curtilage/curtilagelaw15.SweepFound", spec := "sweepFound", inPlace := ["slices.overlaps[curtilage/api.Object]"], unfollowed := true, recurses := true, apart := false }
def SweepFoundSaid : Prop := sweepFoundRow.holds Try.pinned (OpenSpec.ofChange sweepFoundSpec)

/-- ITS FALSE NEIGHBOUR: 'it returns false'. Refute it at one input. -/
def sweepFoundWrong : ChangeSpec := { name := "sweepFound", fn := fun _ => fun
  | [d1, d2, d3] => { results := [.lit (.bool false)], args := [d1, d2, d3] }
  | _ => none }
def SweepFoundWrongFalsely : Prop := sweepFoundRow.holds Try.pinned (OpenSpec.ofChange sweepFoundWrong)

/-- 'curtilagelaw15.SweepSwaps': WHATEVER THE INPUT: true; the input reads as it did. -/
def sweepSwapsSpec : ChangeSpec := { name := "sweepSwaps", fn := fun _ => fun
  | [d1, d2, d3, d4, d5] => { results := [.lit (.bool true)], args := [d1, d2, d3, d4, d5] }
  | _ => none }
def sweepSwapsRow : OpenClaim := { program := "ytleeccmcgophfaa", sum := "c6a8b94fc2e3a948a98c8ecfa9c7b0be513d085f9025f1d1a3443427dde682aa", func := "curtilage/curtilagelaw15.SweepSwaps", spec := "sweepSwaps", inPlace := ["slices.overlaps[curtilage/api.Object]"], unfollowed := true, recurses := true, apart := false }
def SweepSwapsSaid : Prop := sweepSwapsRow.holds Try.pinned (OpenSpec.ofChange sweepSwapsSpec)

/-- ITS FALSE NEIGHBOUR: 'it returns false'. Refute it at one input. -/
def sweepSwapsWrong : ChangeSpec := { name := "sweepSwaps", fn := fun _ => fun
  | [d1, d2, d3, d4, d5] => { results := [.lit (.bool false)], args := [d1, d2, d3, d4, d5] }
  | _ => none }
def SweepSwapsWrongFalsely : Prop := sweepSwapsRow.holds Try.pinned (OpenSpec.ofChange sweepSwapsWrong)

/- THE SECOND FORM. 'bulk': how many values and letters a reading holds, each counted each time it is reached (what is shared counts as often as it is met; a slice's spare places count too). A statement '..UptoSaid' is the law's where the arguments, and the package variables that the reading takes, are together of bulk at most 1048576: NARROWER than '..Said'. Prove '..Said' where nothing that the law and all that it calls make is longer than what came in: it says more and counts as full. Else prove '..UptoSaid'. A law counts once. -/
mutual
def uptoBulk {H : Type} : DataW H → Nat
  | .lit (.string bytes) => bytes.length + 1
  | .lit _ => 1
  | .nil => 1
  | .ptr d => uptoBulk d + 1
  | .slice elems spare => uptoBulkAll elems + uptoBulkAll spare + 1
  | .agg parts => uptoBulkAll parts + 1
  | .iface _ d => uptoBulk d + 1
  | .map entries => uptoBulkEntries entries + 1
  | .held _ => 1
def uptoBulkAll {H : Type} : List (DataW H) → Nat
  | [] => 0
  | d :: r => uptoBulk d + uptoBulkAll r
def uptoBulkEntries {H : Type} : List (Lit × DataW H) → Nat
  | [] => 0
  | x :: r => uptoBulkEntry x + uptoBulkEntries r
def uptoBulkEntry {H : Type} : Lit × DataW H → Nat
  | (.string bytes, d) => bytes.length + uptoBulk d + 1
  | (_, d) => uptoBulk d + 1
 end
def uptoSmall : (H : Type) → List (DataW H) → Bool := fun _ ds => decide (uptoBulkAll ds ≤ 1048576)
def OpenSpec.upto (s : _root_.Go.ChangeSpec) : _root_.Go.OpenSpec := { _root_.Go.OpenSpec.ofChange s with cond := some uptoSmall }

/-- 'curtilagelaw15.SweepJust', WHERE WHAT IT READS IS OF BULK AT MOST 1048576: true; the input reads as it did. -/
def sweepJustUptoRow : OpenClaim := { program := "ytleeccmcgophfaa", sum := "c6a8b94fc2e3a948a98c8ecfa9c7b0be513d085f9025f1d1a3443427dde682aa", func := "curtilage/curtilagelaw15.SweepJust", spec := "sweepJust", inPlace := ["slices.overlaps[curtilage/api.Object]"], unfollowed := true, recurses := true, apart := false, narrowed := true }
def SweepJustUptoSaid : Prop := sweepJustUptoRow.holds Try.pinned (OpenSpec.upto sweepJustSpec)

/-- 'curtilagelaw15.SweepFound', WHERE WHAT IT READS IS OF BULK AT MOST 1048576: true; the input reads as it did. -/
def sweepFoundUptoRow : OpenClaim := { program := "ytleeccmcgophfaa", sum := "c6a8b94fc2e3a948a98c8ecfa9c7b0be513d085f9025f1d1a3443427dde682aa", func := "curtilage/curtilagelaw15.SweepFound", spec := "sweepFound", inPlace := ["slices.overlaps[curtilage/api.Object]"], unfollowed := true, recurses := true, apart := false, narrowed := true }
def SweepFoundUptoSaid : Prop := sweepFoundUptoRow.holds Try.pinned (OpenSpec.upto sweepFoundSpec)

/-- 'curtilagelaw15.SweepSwaps', WHERE WHAT IT READS IS OF BULK AT MOST 1048576: true; the input reads as it did. -/
def sweepSwapsUptoRow : OpenClaim := { program := "ytleeccmcgophfaa", sum := "c6a8b94fc2e3a948a98c8ecfa9c7b0be513d085f9025f1d1a3443427dde682aa", func := "curtilage/curtilagelaw15.SweepSwaps", spec := "sweepSwaps", inPlace := ["slices.overlaps[curtilage/api.Object]"], unfollowed := true, recurses := true, apart := false, narrowed := true }
def SweepSwapsUptoSaid : Prop := sweepSwapsUptoRow.holds Try.pinned (OpenSpec.upto sweepSwapsSpec)

end Rows
end Go.Proofs.Ytleeccmcgophfaa
