/-
  No cell of these rows narrows 'for every input' (looked for: loops, veiled, ifaces, maps, wideKeys, modest, calm, conditions, laid).
  DERIVED. THE GIVEN ROWS OF THIS SEAT. 6 by the template 'for every input the law returns true; each argument reads behind the call as it read before'; 0 by the template 'total and deterministic' (their statements: YtijkiddfobojaaaTotals.lean).
  GIVEN WITH THE SEED: the statements are not yours to turn. If you find one false, say at which input.
  Laid BY PROGRAM, IN A SANDBOX (cutbox-rows.mjs): the forced cells as the released guide's own fill.sh prints them over the translation 3bd4e4652af2966d… (all of the seat's roots in one cut). By AI agents, Wed Nov 11 2026. No macro, syntax, notation, axiom, sorry.
-/
import Derived.Test.YtijkiddfobojaaaChecked
import GoSem.Claim
import GoSem.ClaimJoined
import GoSem.ClaimMapViews
import Derived.JoinedTies
import Derived.KernelRfl
namespace Go.Proofs.Ytijkiddfobojaaa
/- THE CELL 'sum', in the pinned program and in every row, IS THE sha256 OF THE DUMP (.gsa) THAT YtijkiddfobojaaaProg.lean LOADS. Nothing in Lean hashes anything: it is a label: what it is worth is what the hold of that sum in a sandbox is worth. -/
noncomputable def Try.pinned : Pinned := { name := "ytijkiddfobojaaa", sum := "3bd4e4652af2966df6f3a686aeb74dc75f09dc0bee16881c30aec6f31d0c2a6f", checked := Try.checked }
namespace Rows
def none {H : Type} : Left H := { results := [], args := [] }

/-- 'curtilagelaw27.ViewMore': WHATEVER THE INPUT: true; the input reads as it did. -/
def viewMoreSpec : ChangeSpec := { name := "viewMore", fn := fun _ => fun
  | [d1, d2, d3, d4] => { results := [.lit (.bool true)], args := [d1, d2, d3, d4] }
  | _ => none }
def viewMoreRow : OpenClaim := { program := "ytijkiddfobojaaa", sum := "3bd4e4652af2966df6f3a686aeb74dc75f09dc0bee16881c30aec6f31d0c2a6f", func := "curtilage/curtilagelaw27.ViewMore", spec := "viewMore", unfollowed := true, recurses := true, apart := false }
def ViewMoreSaid : Prop := viewMoreRow.holds Try.pinned (OpenSpec.ofChange viewMoreSpec)

/-- ITS FALSE NEIGHBOUR: 'it returns false'. Refute it at one input. -/
def viewMoreWrong : ChangeSpec := { name := "viewMore", fn := fun _ => fun
  | [d1, d2, d3, d4] => { results := [.lit (.bool false)], args := [d1, d2, d3, d4] }
  | _ => none }
def ViewMoreWrongFalsely : Prop := viewMoreRow.holds Try.pinned (OpenSpec.ofChange viewMoreWrong)

/-- 'curtilagelaw33.LibosTells': WHATEVER THE INPUT: true; the input reads as it did. -/
def libosTellsSpec : ChangeSpec := { name := "libosTells", fn := fun _ => fun
  | [d1, d2] => { results := [.lit (.bool true)], args := [d1, d2] }
  | _ => none }
def libosTellsRow : OpenClaim := { program := "ytijkiddfobojaaa", sum := "3bd4e4652af2966df6f3a686aeb74dc75f09dc0bee16881c30aec6f31d0c2a6f", func := "curtilage/curtilagelaw33.LibosTells", spec := "libosTells", inPlace := ["slices.overlaps[curtilage/api.Pair]"], unfollowed := true, recurses := true, apart := false }
def LibosTellsSaid : Prop := libosTellsRow.holds Try.pinned (OpenSpec.ofChange libosTellsSpec)

/-- ITS FALSE NEIGHBOUR: 'it returns false'. Refute it at one input. -/
def libosTellsWrong : ChangeSpec := { name := "libosTells", fn := fun _ => fun
  | [d1, d2] => { results := [.lit (.bool false)], args := [d1, d2] }
  | _ => none }
def LibosTellsWrongFalsely : Prop := libosTellsRow.holds Try.pinned (OpenSpec.ofChange libosTellsWrong)

/-- 'curtilagelaw33.LibosMay': WHATEVER THE INPUT: true; the input reads as it did. -/
def libosMaySpec : ChangeSpec := { name := "libosMay", fn := fun _ => fun
  | [d1, d2, d3] => { results := [.lit (.bool true)], args := [d1, d2, d3] }
  | _ => none }
def libosMayRow : OpenClaim := { program := "ytijkiddfobojaaa", sum := "3bd4e4652af2966df6f3a686aeb74dc75f09dc0bee16881c30aec6f31d0c2a6f", func := "curtilage/curtilagelaw33.LibosMay", spec := "libosMay", inPlace := ["slices.overlaps[curtilage/api.Pair]"], unfollowed := true, recurses := true, apart := false }
def LibosMaySaid : Prop := libosMayRow.holds Try.pinned (OpenSpec.ofChange libosMaySpec)

/-- ITS FALSE NEIGHBOUR: 'it returns false'. Refute it at one input. -/
def libosMayWrong : ChangeSpec := { name := "libosMay", fn := fun _ => fun
  | [d1, d2, d3] => { results := [.lit (.bool false)], args := [d1, d2, d3] }
  | _ => none }
def LibosMayWrongFalsely : Prop := libosMayRow.holds Try.pinned (OpenSpec.ofChange libosMayWrong)

/-- 'curtilagelaw15.SweepJust': WHATEVER THE INPUT: true; the input reads as it did. -/
def sweepJustSpec : ChangeSpec := { name := "sweepJust", fn := fun _ => fun
  | [d1, d2, d3] => { results := [.lit (.bool true)], args := [d1, d2, d3] }
  | _ => none }
def sweepJustRow : OpenClaim := { program := "ytijkiddfobojaaa", sum := "3bd4e4652af2966df6f3a686aeb74dc75f09dc0bee16881c30aec6f31d0c2a6f", func := "curtilage/curtilagelaw15.SweepJust", spec := "sweepJust", inPlace := ["slices.overlaps[curtilage/api.Object]"], unfollowed := true, recurses := true, apart := false }
def SweepJustSaid : Prop := sweepJustRow.holds Try.pinned (OpenSpec.ofChange sweepJustSpec)

/-- ITS FALSE NEIGHBOUR: 'it returns false'. Refute it at one input. -/
def sweepJustWrong : ChangeSpec := { name := "sweepJust", fn := fun _ => fun
  | [d1, d2, d3] => { results := [.lit (.bool false)], args := [d1, d2, d3] }
  | _ => none }
def SweepJustWrongFalsely : Prop := sweepJustRow.holds Try.pinned (OpenSpec.ofChange sweepJustWrong)

/-- 'curtilagelaw15.SweepFound': WHATEVER THE INPUT: true; the input reads as it did. -/
def sweepFoundSpec : ChangeSpec := { name := "sweepFound", fn := fun _ => fun
  | [d1, d2, d3] => { results := [.lit (.bool true)], args := [d1, d2, d3] }
  | _ => none }
def sweepFoundRow : OpenClaim := { program := "ytijkiddfobojaaa", sum := "3bd4e4652af2966df6f3a686aeb74dc75f09dc0bee16881c30aec6f31d0c2a6f", func := "curtilage/curtilagelaw15.SweepFound", spec := "sweepFound", inPlace := ["slices.overlaps[curtilage/api.Object]"], unfollowed := true, recurses := true, apart := false }
def SweepFoundSaid : Prop := sweepFoundRow.holds Try.pinned (OpenSpec.ofChange sweepFoundSpec)

/-- ITS FALSE NEIGHBOUR: 'it returns false'. Refute it at one input. -/
def sweepFoundWrong : ChangeSpec := { name := "sweepFound", fn := fun _ => fun
  | [d1, d2, d3] => { results := [.lit (.bool false)], args := [d1, d2, d3] }
  | _ => none }
def SweepFoundWrongFalsely : Prop := sweepFoundRow.holds Try.pinned (OpenSpec.ofChange sweepFoundWrong)

/-- 'curtilagelaw15.SweepSwaps': WHATEVER THE INPUT: true; the input reads as it did. -/
def sweepSwapsSpec : ChangeSpec := { name := "sweepSwaps", fn := fun _ => fun
  | [d1, d2, d3, d4, d5] => { results := [.lit (.bool true)], args := [d1, d2, d3, d4, d5] }
  | _ => none }
def sweepSwapsRow : OpenClaim := { program := "ytijkiddfobojaaa", sum := "3bd4e4652af2966df6f3a686aeb74dc75f09dc0bee16881c30aec6f31d0c2a6f", func := "curtilage/curtilagelaw15.SweepSwaps", spec := "sweepSwaps", inPlace := ["slices.overlaps[curtilage/api.Object]"], unfollowed := true, recurses := true, apart := false }
def SweepSwapsSaid : Prop := sweepSwapsRow.holds Try.pinned (OpenSpec.ofChange sweepSwapsSpec)

/-- ITS FALSE NEIGHBOUR: 'it returns false'. Refute it at one input. -/
def sweepSwapsWrong : ChangeSpec := { name := "sweepSwaps", fn := fun _ => fun
  | [d1, d2, d3, d4, d5] => { results := [.lit (.bool false)], args := [d1, d2, d3, d4, d5] }
  | _ => none }
def SweepSwapsWrongFalsely : Prop := sweepSwapsRow.holds Try.pinned (OpenSpec.ofChange sweepSwapsWrong)

/- THE SECOND FORM. 'bulk': how many values and letters a reading holds, each counted each time it is reached (what is shared counts as often as it is met; a slice's spare places count too). A statement '..UptoSaid' is the law's where the arguments, and the package variables that the reading takes, are together of bulk at most 1048576: NARROWER than '..Said'. Prove '..Said' where nothing that the law and all that it calls make is longer than what came in: it says more and counts as full. Else prove '..UptoSaid'. A law counts once. -/
mutual
def uptoBulk {H : Type} : DataW H → Nat
  | .lit (.string bytes) => bytes.length + 1
  | .lit _ => 1
  | .nil => 1
  | .ptr d => uptoBulk d + 1
  | .slice elems spare => uptoBulkAll elems + uptoBulkAll spare + 1
  | .agg parts => uptoBulkAll parts + 1
  | .iface _ d => uptoBulk d + 1
  | .map entries => uptoBulkEntries entries + 1
  | .held _ => 1
def uptoBulkAll {H : Type} : List (DataW H) → Nat
  | [] => 0
  | d :: r => uptoBulk d + uptoBulkAll r
def uptoBulkEntries {H : Type} : List (Lit × DataW H) → Nat
  | [] => 0
  | x :: r => uptoBulkEntry x + uptoBulkEntries r
def uptoBulkEntry {H : Type} : Lit × DataW H → Nat
  | (.string bytes, d) => bytes.length + uptoBulk d + 1
  | (_, d) => uptoBulk d + 1
 end
def uptoSmall : (H : Type) → List (DataW H) → Bool := fun _ ds => decide (uptoBulkAll ds ≤ 1048576)
def OpenSpec.upto (s : _root_.Go.ChangeSpec) : _root_.Go.OpenSpec := { _root_.Go.OpenSpec.ofChange s with cond := some uptoSmall }

/-- 'curtilagelaw27.ViewMore', WHERE WHAT IT READS IS OF BULK AT MOST 1048576: true; the input reads as it did. -/
def viewMoreUptoRow : OpenClaim := { program := "ytijkiddfobojaaa", sum := "3bd4e4652af2966df6f3a686aeb74dc75f09dc0bee16881c30aec6f31d0c2a6f", func := "curtilage/curtilagelaw27.ViewMore", spec := "viewMore", unfollowed := true, recurses := true, apart := false, narrowed := true }
def ViewMoreUptoSaid : Prop := viewMoreUptoRow.holds Try.pinned (OpenSpec.upto viewMoreSpec)

/-- 'curtilagelaw33.LibosTells', WHERE WHAT IT READS IS OF BULK AT MOST 1048576: true; the input reads as it did. -/
def libosTellsUptoRow : OpenClaim := { program := "ytijkiddfobojaaa", sum := "3bd4e4652af2966df6f3a686aeb74dc75f09dc0bee16881c30aec6f31d0c2a6f", func := "curtilage/curtilagelaw33.LibosTells", spec := "libosTells", inPlace := ["slices.overlaps[curtilage/api.Pair]"], unfollowed := true, recurses := true, apart := false, narrowed := true }
def LibosTellsUptoSaid : Prop := libosTellsUptoRow.holds Try.pinned (OpenSpec.upto libosTellsSpec)

/-- 'curtilagelaw33.LibosMay', WHERE WHAT IT READS IS OF BULK AT MOST 1048576: true; the input reads as it did. -/
def libosMayUptoRow : OpenClaim := { program := "ytijkiddfobojaaa", sum := "3bd4e4652af2966df6f3a686aeb74dc75f09dc0bee16881c30aec6f31d0c2a6f", func := "curtilage/curtilagelaw33.LibosMay", spec := "libosMay", inPlace := ["slices.overlaps[curtilage/api.Pair]"], unfollowed := true, recurses := true, apart := false, narrowed := true }
def LibosMayUptoSaid : Prop := libosMayUptoRow.holds Try.pinned (OpenSpec.upto libosMaySpec)

/-- 'curtilagelaw15.SweepJust', WHERE WHAT IT READS IS OF BULK AT MOST 1048576: true; the input reads as it did. -/
def sweepJustUptoRow : OpenClaim := { program := "ytijkiddfobojaaa", sum := "3bd4e4652af2966df6f3a686aeb74dc75f09dc0bee16881c30aec6f31d0c2a6f", func := "curtilage/curtilagelaw15.SweepJust", spec := "sweepJust", inPlace := ["slices.overlaps[curtilage/api.Object]"], unfollowed := true, recurses := true, apart := false, narrowed := true }
def SweepJustUptoSaid : Prop := sweepJustUptoRow.holds Try.pinned (OpenSpec.upto sweepJustSpec)

/-- 'curtilagelaw15.SweepFound', WHERE WHAT IT READS IS OF BULK AT MOST 1048576: true; the input reads as it did. -/
def sweepFoundUptoRow : OpenClaim := { program := "ytijkiddfobojaaa", sum := "3bd4e4652af2966df6f3a686aeb74dc75f09dc0bee16881c30aec6f31d0c2a6f", func := "curtilage/curtilagelaw15.SweepFound", spec := "sweepFound", inPlace := ["slices.overlaps[curtilage/api.Object]"], unfollowed := true, recurses := true, apart := false, narrowed := true }
def SweepFoundUptoSaid : Prop := sweepFoundUptoRow.holds Try.pinned (OpenSpec.upto sweepFoundSpec)

/-- 'curtilagelaw15.SweepSwaps', WHERE WHAT IT READS IS OF BULK AT MOST 1048576: true; the input reads as it did. -/
def sweepSwapsUptoRow : OpenClaim := { program := "ytijkiddfobojaaa", sum := "3bd4e4652af2966df6f3a686aeb74dc75f09dc0bee16881c30aec6f31d0c2a6f", func := "curtilage/curtilagelaw15.SweepSwaps", spec := "sweepSwaps", inPlace := ["slices.overlaps[curtilage/api.Object]"], unfollowed := true, recurses := true, apart := false, narrowed := true }
def SweepSwapsUptoSaid : Prop := sweepSwapsUptoRow.holds Try.pinned (OpenSpec.upto sweepSwapsSpec)

end Rows
end Go.Proofs.Ytijkiddfobojaaa
