import Derived.Test.YtleeccmcgophfaaGreatRows
import Derived.ProofKit
import Derived.OpenShut
import Derived.Carry
import Derived.WideKeyArgs
set_option linter.all false
namespace Go.Proofs.YtleeccmcgophfaaGreat.treeWhole
set_option linter.all false
open Go Go.ChangeShapes Go.WideShapes Go.ChangeAt Go.RowKit
theorem c1:Tryz.pinned.checked.prog.funcNamed Rows.treeWholeRow.func=some 10:=by kernel_rfl
theorem k10:(Rows.treeWholeRow.inPlace == Program.inPlace Tryz.pinned.checked.prog 10)=true:=by kernel_rfl
theorem k11:(Rows.treeWholeRow.unfollowed == Program.unfollowed Tryz.pinned.checked.prog 10)=true:=by kernel_rfl
theorem k12:(Rows.treeWholeRow.recurses == Program.recurses Tryz.pinned.checked.prog 10)=true:=by kernel_rfl
theorem k13:(Rows.treeWholeRow.named == Program.varsNamed Tryz.pinned.checked.prog 10)=true:=by kernel_rfl
theorem c2:joinedFacts Tryz.pinned.checked.prog 10 Tryz.f10 Rows.treeWholeSpec Rows.treeWholeRow=true:=by
 unfold joinedFacts
 rw [k10,k11,k12,k13]
 kernel_rfl
theorem c3:Tryz.f10.isWrapper Tryz.pinned.checked.prog Rows.treeWholeRow.wrapper Rows.treeWholeRow.mainSum:=by
 unfold Func.isWrapper; first | (rw [if_pos (by decide +kernel)]; kernel_rfl) | (rw [if_neg (by decide +kernel)]; exact ⟨rfl,rfl⟩)
theorem c4:Tryz.f10.isInstance Tryz.pinned.checked.prog Rows.treeWholeRow.origin Rows.treeWholeRow.targs:=of_decide_eq_true (by kernel_rfl)
theorem laid:laidOutB Tryz.prog=true:=by kernel_rfl
theorem read25:Tryz.prog.readableRec 25=true:=by kernel_rfl
theorem lt25:25 < Tryz.prog.types.size:=of_decide_eq_true (by kernel_rfl)
theorem read58:Tryz.prog.readableRec 58=true:=by kernel_rfl
theorem lt58:58 < Tryz.prog.types.size:=of_decide_eq_true (by kernel_rfl)
theorem own:ownKnob Tryz.prog.godebug=none:=by kernel_rfl
end Go.Proofs.YtleeccmcgophfaaGreat.treeWhole
