import Derived.Test.YtleeccmcgophfaaGreatPN
import Derived.Test.YtleeccmcgophfaaGreatRows
import Derived.ProofKit
import Derived.OpenShut
import Derived.Carry
import Derived.WideKeyArgs
set_option linter.all false
namespace Go.Proofs.YtleeccmcgophfaaGreat.treeAll
set_option linter.all false
open Go Go.ChangeShapes Go.WideShapes Go.ChangeAt Go.RowKit
theorem c1 : Tryz.pinned.checked.prog.funcNamed Rows.treeAllRow.func = some 6 := by kernel_rfl
theorem c2 : joinedFacts Tryz.pinned.checked.prog 6 Tryz.f6 Rows.treeAllSpec Rows.treeAllRow = true := by kernel_rfl
theorem c3 : Tryz.f6.isWrapper Tryz.pinned.checked.prog Rows.treeAllRow.wrapper Rows.treeAllRow.mainSum := by
 unfold Func.isWrapper; first | (rw [if_pos (by decide +kernel)]; kernel_rfl) | (rw [if_neg (by decide +kernel)]; exact ⟨rfl, rfl⟩)
theorem c4 : Tryz.f6.isInstance Tryz.pinned.checked.prog Rows.treeAllRow.origin Rows.treeAllRow.targs := of_decide_eq_true (by kernel_rfl)
theorem laid : laidOutB Tryz.prog = true := by kernel_rfl
theorem read25 : Tryz.prog.readableRec 25 = true := by kernel_rfl
theorem lt25 : 25 < Tryz.prog.types.size := of_decide_eq_true (by kernel_rfl)
theorem own : ownKnob Tryz.prog.godebug = none := by kernel_rfl
end Go.Proofs.YtleeccmcgophfaaGreat.treeAll
