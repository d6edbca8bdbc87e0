/-
  No cell of these rows narrows 'for every input' (looked for: loops, veiled, ifaces, maps, wideKeys, modest, calm, conditions, laid).
  DERIVED. THE GIVEN ROWS OF THIS SEAT. 9 by the template 'for every input the law returns true; each argument reads behind the call as it read before'; 0 by the template 'total and deterministic' (their statements: YtleeccmcgophfaaGreatTotals.lean).
  GIVEN WITH THE SEED: the statements are not yours to turn. If you find one false, say at which input.
  Laid BY PROGRAM, IN A SANDBOX (cutbox-rows.mjs): the forced cells as the released guide's own fill.sh prints them over the translation c71f74a41d107898… (all of the seat's roots in one cut). By AI agents, Wed Nov 11 2026. No macro, syntax, notation, axiom, sorry.
-/
import Derived.Test.YtleeccmcgophfaaGreatChecked
import GoSem.Claim
import GoSem.ClaimJoined
import GoSem.ClaimMapViews
import Derived.JoinedTies
import Derived.KernelRfl
namespace Go.Proofs.YtleeccmcgophfaaGreat
/- THE CELL 'sum', in the pinned program and in every row, IS THE sha256 OF THE DUMP (.gsa) THAT YtleeccmcgophfaaGreatProg.lean LOADS. Nothing in Lean hashes anything: it is a label: what it is worth is what the hold of that sum in a sandbox is worth. -/
noncomputable def Tryz.pinned : Pinned := { name := "ytleeccmcgophfaagreat", sum := "c71f74a41d107898a6f8fbaa9aa5cfef972fae2ab83f0533165333aa875d2713", checked := Tryz.checked }
namespace Rows
def none {H : Type} : Left H := { results := [], args := [] }

/-- 'curtilagelaw28.AuditCounts': WHATEVER THE INPUT: true; the input reads as it did. -/
def auditCountsSpec : ChangeSpec := { name := "auditCounts", fn := fun _ => fun
  | [d] => { results := [.lit (.bool true)], args := [d] }
  | _ => none }
def auditCountsRow : OpenClaim := { program := "ytleeccmcgophfaagreat", sum := "c71f74a41d107898a6f8fbaa9aa5cfef972fae2ab83f0533165333aa875d2713", func := "curtilage/curtilagelaw28.AuditCounts", spec := "auditCounts", unfollowed := true, recurses := true, plainKeys := false, apart := false }
def AuditCountsSaid : Prop := auditCountsRow.holds Tryz.pinned (OpenSpec.ofChange auditCountsSpec)

/-- ITS FALSE NEIGHBOUR: 'it returns false'. Refute it at one input. -/
def auditCountsWrong : ChangeSpec := { name := "auditCounts", fn := fun _ => fun
  | [d] => { results := [.lit (.bool false)], args := [d] }
  | _ => none }
def AuditCountsWrongFalsely : Prop := auditCountsRow.holds Tryz.pinned (OpenSpec.ofChange auditCountsWrong)

/-- 'curtilagelaw15.SweepDoes': WHATEVER THE INPUT: true; the input reads as it did. -/
def sweepDoesSpec : ChangeSpec := { name := "sweepDoes", fn := fun _ => fun
  | [d1, d2, d3] => { results := [.lit (.bool true)], args := [d1, d2, d3] }
  | _ => none }
def sweepDoesRow : OpenClaim := { program := "ytleeccmcgophfaagreat", sum := "c71f74a41d107898a6f8fbaa9aa5cfef972fae2ab83f0533165333aa875d2713", func := "curtilage/curtilagelaw15.SweepDoes", spec := "sweepDoes", inPlace := ["slices.overlaps[curtilage/api.Object]"], unfollowed := true, recurses := true, plainKeys := false, apart := false }
def SweepDoesSaid : Prop := sweepDoesRow.holds Tryz.pinned (OpenSpec.ofChange sweepDoesSpec)

/-- ITS FALSE NEIGHBOUR: 'it returns false'. Refute it at one input. -/
def sweepDoesWrong : ChangeSpec := { name := "sweepDoes", fn := fun _ => fun
  | [d1, d2, d3] => { results := [.lit (.bool false)], args := [d1, d2, d3] }
  | _ => none }
def SweepDoesWrongFalsely : Prop := sweepDoesRow.holds Tryz.pinned (OpenSpec.ofChange sweepDoesWrong)

/-- 'curtilagelaw14.TreeTells': WHATEVER THE INPUT: true; the input reads as it did. -/
def treeTellsSpec : ChangeSpec := { name := "treeTells", fn := fun _ => fun
  | [d1, d2, d3] => { results := [.lit (.bool true)], args := [d1, d2, d3] }
  | _ => none }
def treeTellsRow : OpenClaim := { program := "ytleeccmcgophfaagreat", sum := "c71f74a41d107898a6f8fbaa9aa5cfef972fae2ab83f0533165333aa875d2713", func := "curtilage/curtilagelaw14.TreeTells", spec := "treeTells", inPlace := ["slices.overlaps[uint64]", "slices.overlaps[curtilage/api.Object]"], unfollowed := true, recurses := true, plainKeys := false, apart := false }
def TreeTellsSaid : Prop := treeTellsRow.holds Tryz.pinned (OpenSpec.ofChange treeTellsSpec)

/-- ITS FALSE NEIGHBOUR: 'it returns false'. Refute it at one input. -/
def treeTellsWrong : ChangeSpec := { name := "treeTells", fn := fun _ => fun
  | [d1, d2, d3] => { results := [.lit (.bool false)], args := [d1, d2, d3] }
  | _ => none }
def TreeTellsWrongFalsely : Prop := treeTellsRow.holds Tryz.pinned (OpenSpec.ofChange treeTellsWrong)

/-- 'curtilagelaw14.TreeAll': WHATEVER THE INPUT: true; the input reads as it did. -/
def treeAllSpec : ChangeSpec := { name := "treeAll", fn := fun _ => fun
  | [d] => { results := [.lit (.bool true)], args := [d] }
  | _ => none }
def treeAllRow : OpenClaim := { program := "ytleeccmcgophfaagreat", sum := "c71f74a41d107898a6f8fbaa9aa5cfef972fae2ab83f0533165333aa875d2713", func := "curtilage/curtilagelaw14.TreeAll", spec := "treeAll", inPlace := ["slices.overlaps[uint64]", "slices.overlaps[curtilage/api.Object]"], unfollowed := true, recurses := true, plainKeys := false, apart := false }
def TreeAllSaid : Prop := treeAllRow.holds Tryz.pinned (OpenSpec.ofChange treeAllSpec)

/-- ITS FALSE NEIGHBOUR: 'it returns false'. Refute it at one input. -/
def treeAllWrong : ChangeSpec := { name := "treeAll", fn := fun _ => fun
  | [d] => { results := [.lit (.bool false)], args := [d] }
  | _ => none }
def TreeAllWrongFalsely : Prop := treeAllRow.holds Tryz.pinned (OpenSpec.ofChange treeAllWrong)

/-- 'curtilagelaw29.RealFits': WHATEVER THE INPUT: true; the input reads as it did. -/
def realFitsSpec : ChangeSpec := { name := "realFits", fn := fun _ => fun
  | [d1, d2] => { results := [.lit (.bool true)], args := [d1, d2] }
  | _ => none }
def realFitsRow : OpenClaim := { program := "ytleeccmcgophfaagreat", sum := "c71f74a41d107898a6f8fbaa9aa5cfef972fae2ab83f0533165333aa875d2713", func := "curtilage/curtilagelaw29.RealFits", spec := "realFits", unfollowed := true, recurses := true, plainKeys := false, apart := false }
def RealFitsSaid : Prop := realFitsRow.holds Tryz.pinned (OpenSpec.ofChange realFitsSpec)

/-- ITS FALSE NEIGHBOUR: 'it returns false'. Refute it at one input. -/
def realFitsWrong : ChangeSpec := { name := "realFits", fn := fun _ => fun
  | [d1, d2] => { results := [.lit (.bool false)], args := [d1, d2] }
  | _ => none }
def RealFitsWrongFalsely : Prop := realFitsRow.holds Tryz.pinned (OpenSpec.ofChange realFitsWrong)

/-- 'curtilagelaw14.TreeHolds': WHATEVER THE INPUT: true; the input reads as it did. -/
def treeHoldsSpec : ChangeSpec := { name := "treeHolds", fn := fun _ => fun
  | [d1, d2, d3, d4, d5] => { results := [.lit (.bool true)], args := [d1, d2, d3, d4, d5] }
  | _ => none }
def treeHoldsRow : OpenClaim := { program := "ytleeccmcgophfaagreat", sum := "c71f74a41d107898a6f8fbaa9aa5cfef972fae2ab83f0533165333aa875d2713", func := "curtilage/curtilagelaw14.TreeHolds", spec := "treeHolds", inPlace := ["slices.overlaps[uint64]", "slices.overlaps[curtilage/api.Object]"], unfollowed := true, recurses := true, plainKeys := false, apart := false }
def TreeHoldsSaid : Prop := treeHoldsRow.holds Tryz.pinned (OpenSpec.ofChange treeHoldsSpec)

/-- ITS FALSE NEIGHBOUR: 'it returns false'. Refute it at one input. -/
def treeHoldsWrong : ChangeSpec := { name := "treeHolds", fn := fun _ => fun
  | [d1, d2, d3, d4, d5] => { results := [.lit (.bool false)], args := [d1, d2, d3, d4, d5] }
  | _ => none }
def TreeHoldsWrongFalsely : Prop := treeHoldsRow.holds Tryz.pinned (OpenSpec.ofChange treeHoldsWrong)

/-- 'curtilagelaw14.TreeDoes': WHATEVER THE INPUT: true; the input reads as it did. -/
def treeDoesSpec : ChangeSpec := { name := "treeDoes", fn := fun _ => fun
  | [d1, d2, d3, d4, d5] => { results := [.lit (.bool true)], args := [d1, d2, d3, d4, d5] }
  | _ => none }
def treeDoesRow : OpenClaim := { program := "ytleeccmcgophfaagreat", sum := "c71f74a41d107898a6f8fbaa9aa5cfef972fae2ab83f0533165333aa875d2713", func := "curtilage/curtilagelaw14.TreeDoes", spec := "treeDoes", inPlace := ["slices.overlaps[uint64]", "slices.overlaps[curtilage/api.Object]"], unfollowed := true, recurses := true, plainKeys := false, apart := false }
def TreeDoesSaid : Prop := treeDoesRow.holds Tryz.pinned (OpenSpec.ofChange treeDoesSpec)

/-- ITS FALSE NEIGHBOUR: 'it returns false'. Refute it at one input. -/
def treeDoesWrong : ChangeSpec := { name := "treeDoes", fn := fun _ => fun
  | [d1, d2, d3, d4, d5] => { results := [.lit (.bool false)], args := [d1, d2, d3, d4, d5] }
  | _ => none }
def TreeDoesWrongFalsely : Prop := treeDoesRow.holds Tryz.pinned (OpenSpec.ofChange treeDoesWrong)

/-- 'curtilagelaw14.TreeWhole': WHATEVER THE INPUT: true; the input reads as it did. -/
def treeWholeSpec : ChangeSpec := { name := "treeWhole", fn := fun _ => fun
  | [d1, d2, d3, d4, d5] => { results := [.lit (.bool true)], args := [d1, d2, d3, d4, d5] }
  | _ => none }
def treeWholeRow : OpenClaim := { program := "ytleeccmcgophfaagreat", sum := "c71f74a41d107898a6f8fbaa9aa5cfef972fae2ab83f0533165333aa875d2713", func := "curtilage/curtilagelaw14.TreeWhole", spec := "treeWhole", inPlace := ["slices.overlaps[uint64]", "slices.overlaps[curtilage/api.Object]"], unfollowed := true, recurses := true, plainKeys := false, apart := false }
def TreeWholeSaid : Prop := treeWholeRow.holds Tryz.pinned (OpenSpec.ofChange treeWholeSpec)

/-- ITS FALSE NEIGHBOUR: 'it returns false'. Refute it at one input. -/
def treeWholeWrong : ChangeSpec := { name := "treeWhole", fn := fun _ => fun
  | [d1, d2, d3, d4, d5] => { results := [.lit (.bool false)], args := [d1, d2, d3, d4, d5] }
  | _ => none }
def TreeWholeWrongFalsely : Prop := treeWholeRow.holds Tryz.pinned (OpenSpec.ofChange treeWholeWrong)

/-- 'curtilagelaw30.BootWhole': WHATEVER THE INPUT: true; the input reads as it did. -/
def bootWholeSpec : ChangeSpec := { name := "bootWhole", fn := fun _ => fun
  | [d1, d2] => { results := [.lit (.bool true)], args := [d1, d2] }
  | _ => none }
def bootWholeRow : OpenClaim := { program := "ytleeccmcgophfaagreat", sum := "c71f74a41d107898a6f8fbaa9aa5cfef972fae2ab83f0533165333aa875d2713", func := "curtilage/curtilagelaw30.BootWhole", spec := "bootWhole", inPlace := ["slices.overlaps[curtilage/api.Map]", "slices.overlaps[uint64]", "slices.overlaps[curtilage/api.Object]"], unfollowed := true, recurses := true, plainKeys := false, apart := false }
def BootWholeSaid : Prop := bootWholeRow.holds Tryz.pinned (OpenSpec.ofChange bootWholeSpec)

/-- ITS FALSE NEIGHBOUR: 'it returns false'. Refute it at one input. -/
def bootWholeWrong : ChangeSpec := { name := "bootWhole", fn := fun _ => fun
  | [d1, d2] => { results := [.lit (.bool false)], args := [d1, d2] }
  | _ => none }
def BootWholeWrongFalsely : Prop := bootWholeRow.holds Tryz.pinned (OpenSpec.ofChange bootWholeWrong)

/- THE SECOND FORM. 'bulk': how many values and letters a reading holds, each counted each time it is reached (what is shared counts as often as it is met; a slice's spare places count too). A statement '..UptoSaid' is the law's where the arguments, and the package variables that the reading takes, are together of bulk at most 1048576: NARROWER than '..Said'. Prove '..Said' where nothing that the law and all that it calls make is longer than what came in: it says more and counts as full. Else prove '..UptoSaid'. A law counts once. -/
mutual
def uptoBulk {H : Type} : DataW H → Nat
  | .lit (.string bytes) => bytes.length + 1
  | .lit _ => 1
  | .nil => 1
  | .ptr d => uptoBulk d + 1
  | .slice elems spare => uptoBulkAll elems + uptoBulkAll spare + 1
  | .agg parts => uptoBulkAll parts + 1
  | .iface _ d => uptoBulk d + 1
  | .map entries => uptoBulkEntries entries + 1
  | .held _ => 1
def uptoBulkAll {H : Type} : List (DataW H) → Nat
  | [] => 0
  | d :: r => uptoBulk d + uptoBulkAll r
def uptoBulkEntries {H : Type} : List (Lit × DataW H) → Nat
  | [] => 0
  | x :: r => uptoBulkEntry x + uptoBulkEntries r
def uptoBulkEntry {H : Type} : Lit × DataW H → Nat
  | (.string bytes, d) => bytes.length + uptoBulk d + 1
  | (_, d) => uptoBulk d + 1
 end
def uptoSmall : (H : Type) → List (DataW H) → Bool := fun _ ds => decide (uptoBulkAll ds ≤ 1048576)
def OpenSpec.upto (s : _root_.Go.ChangeSpec) : _root_.Go.OpenSpec := { _root_.Go.OpenSpec.ofChange s with cond := some uptoSmall }

/-- 'curtilagelaw28.AuditCounts', WHERE WHAT IT READS IS OF BULK AT MOST 1048576: true; the input reads as it did. -/
def auditCountsUptoRow : OpenClaim := { program := "ytleeccmcgophfaagreat", sum := "c71f74a41d107898a6f8fbaa9aa5cfef972fae2ab83f0533165333aa875d2713", func := "curtilage/curtilagelaw28.AuditCounts", spec := "auditCounts", unfollowed := true, recurses := true, plainKeys := false, apart := false, narrowed := true }
def AuditCountsUptoSaid : Prop := auditCountsUptoRow.holds Tryz.pinned (OpenSpec.upto auditCountsSpec)

/-- 'curtilagelaw15.SweepDoes', WHERE WHAT IT READS IS OF BULK AT MOST 1048576: true; the input reads as it did. -/
def sweepDoesUptoRow : OpenClaim := { program := "ytleeccmcgophfaagreat", sum := "c71f74a41d107898a6f8fbaa9aa5cfef972fae2ab83f0533165333aa875d2713", func := "curtilage/curtilagelaw15.SweepDoes", spec := "sweepDoes", inPlace := ["slices.overlaps[curtilage/api.Object]"], unfollowed := true, recurses := true, plainKeys := false, apart := false, narrowed := true }
def SweepDoesUptoSaid : Prop := sweepDoesUptoRow.holds Tryz.pinned (OpenSpec.upto sweepDoesSpec)

/-- 'curtilagelaw14.TreeTells', WHERE WHAT IT READS IS OF BULK AT MOST 1048576: true; the input reads as it did. -/
def treeTellsUptoRow : OpenClaim := { program := "ytleeccmcgophfaagreat", sum := "c71f74a41d107898a6f8fbaa9aa5cfef972fae2ab83f0533165333aa875d2713", func := "curtilage/curtilagelaw14.TreeTells", spec := "treeTells", inPlace := ["slices.overlaps[uint64]", "slices.overlaps[curtilage/api.Object]"], unfollowed := true, recurses := true, plainKeys := false, apart := false, narrowed := true }
def TreeTellsUptoSaid : Prop := treeTellsUptoRow.holds Tryz.pinned (OpenSpec.upto treeTellsSpec)

/-- 'curtilagelaw14.TreeAll', WHERE WHAT IT READS IS OF BULK AT MOST 1048576: true; the input reads as it did. -/
def treeAllUptoRow : OpenClaim := { program := "ytleeccmcgophfaagreat", sum := "c71f74a41d107898a6f8fbaa9aa5cfef972fae2ab83f0533165333aa875d2713", func := "curtilage/curtilagelaw14.TreeAll", spec := "treeAll", inPlace := ["slices.overlaps[uint64]", "slices.overlaps[curtilage/api.Object]"], unfollowed := true, recurses := true, plainKeys := false, apart := false, narrowed := true }
def TreeAllUptoSaid : Prop := treeAllUptoRow.holds Tryz.pinned (OpenSpec.upto treeAllSpec)

/-- 'curtilagelaw29.RealFits', WHERE WHAT IT READS IS OF BULK AT MOST 1048576: true; the input reads as it did. -/
def realFitsUptoRow : OpenClaim := { program := "ytleeccmcgophfaagreat", sum := "c71f74a41d107898a6f8fbaa9aa5cfef972fae2ab83f0533165333aa875d2713", func := "curtilage/curtilagelaw29.RealFits", spec := "realFits", unfollowed := true, recurses := true, plainKeys := false, apart := false, narrowed := true }
def RealFitsUptoSaid : Prop := realFitsUptoRow.holds Tryz.pinned (OpenSpec.upto realFitsSpec)

/-- 'curtilagelaw14.TreeHolds', WHERE WHAT IT READS IS OF BULK AT MOST 1048576: true; the input reads as it did. -/
def treeHoldsUptoRow : OpenClaim := { program := "ytleeccmcgophfaagreat", sum := "c71f74a41d107898a6f8fbaa9aa5cfef972fae2ab83f0533165333aa875d2713", func := "curtilage/curtilagelaw14.TreeHolds", spec := "treeHolds", inPlace := ["slices.overlaps[uint64]", "slices.overlaps[curtilage/api.Object]"], unfollowed := true, recurses := true, plainKeys := false, apart := false, narrowed := true }
def TreeHoldsUptoSaid : Prop := treeHoldsUptoRow.holds Tryz.pinned (OpenSpec.upto treeHoldsSpec)

/-- 'curtilagelaw14.TreeDoes', WHERE WHAT IT READS IS OF BULK AT MOST 1048576: true; the input reads as it did. -/
def treeDoesUptoRow : OpenClaim := { program := "ytleeccmcgophfaagreat", sum := "c71f74a41d107898a6f8fbaa9aa5cfef972fae2ab83f0533165333aa875d2713", func := "curtilage/curtilagelaw14.TreeDoes", spec := "treeDoes", inPlace := ["slices.overlaps[uint64]", "slices.overlaps[curtilage/api.Object]"], unfollowed := true, recurses := true, plainKeys := false, apart := false, narrowed := true }
def TreeDoesUptoSaid : Prop := treeDoesUptoRow.holds Tryz.pinned (OpenSpec.upto treeDoesSpec)

/-- 'curtilagelaw14.TreeWhole', WHERE WHAT IT READS IS OF BULK AT MOST 1048576: true; the input reads as it did. -/
def treeWholeUptoRow : OpenClaim := { program := "ytleeccmcgophfaagreat", sum := "c71f74a41d107898a6f8fbaa9aa5cfef972fae2ab83f0533165333aa875d2713", func := "curtilage/curtilagelaw14.TreeWhole", spec := "treeWhole", inPlace := ["slices.overlaps[uint64]", "slices.overlaps[curtilage/api.Object]"], unfollowed := true, recurses := true, plainKeys := false, apart := false, narrowed := true }
def TreeWholeUptoSaid : Prop := treeWholeUptoRow.holds Tryz.pinned (OpenSpec.upto treeWholeSpec)

/-- 'curtilagelaw30.BootWhole', WHERE WHAT IT READS IS OF BULK AT MOST 1048576: true; the input reads as it did. -/
def bootWholeUptoRow : OpenClaim := { program := "ytleeccmcgophfaagreat", sum := "c71f74a41d107898a6f8fbaa9aa5cfef972fae2ab83f0533165333aa875d2713", func := "curtilage/curtilagelaw30.BootWhole", spec := "bootWhole", inPlace := ["slices.overlaps[curtilage/api.Map]", "slices.overlaps[uint64]", "slices.overlaps[curtilage/api.Object]"], unfollowed := true, recurses := true, plainKeys := false, apart := false, narrowed := true }
def BootWholeUptoSaid : Prop := bootWholeUptoRow.holds Tryz.pinned (OpenSpec.upto bootWholeSpec)

end Rows
end Go.Proofs.YtleeccmcgophfaaGreat
