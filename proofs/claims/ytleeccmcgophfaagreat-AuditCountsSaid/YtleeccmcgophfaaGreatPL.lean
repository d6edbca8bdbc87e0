import Derived.Test.YtleeccmcgophfaaGreatRows
import Derived.ProofKit
import Derived.OpenShut
import Derived.Carry
import Derived.WideKeyArgs
set_option linter.all false
namespace Go.Proofs.YtleeccmcgophfaaGreat.auditCounts
open Go Go.ChangeShapes Go.WideShapes Go.ChangeAt Go.RowKit
theorem c1:Tryz.pinned.checked.prog.funcNamed Rows.auditCountsRow.func=some 3:=by kernel_rfl
theorem k10:(Rows.auditCountsRow.inPlace==Program.inPlace Tryz.pinned.checked.prog 3)=true:=by kernel_rfl
theorem k11:(Rows.auditCountsRow.unfollowed==Program.unfollowed Tryz.pinned.checked.prog 3)=true:=by kernel_rfl
theorem k12:(Rows.auditCountsRow.recurses==Program.recurses Tryz.pinned.checked.prog 3)=true:=by kernel_rfl
theorem k13:(Rows.auditCountsRow.named==Program.varsNamed Tryz.pinned.checked.prog 3)=true:=by kernel_rfl
theorem c2:joinedFacts Tryz.pinned.checked.prog 3 Tryz.f3 Rows.auditCountsSpec Rows.auditCountsRow=true:=by
 unfold joinedFacts
 rw [k10,k11,k12,k13]
 kernel_rfl
theorem c3:Tryz.f3.isWrapper Tryz.pinned.checked.prog Rows.auditCountsRow.wrapper Rows.auditCountsRow.mainSum:=by
 unfold Func.isWrapper;first | (rw [if_pos (by decide +kernel)];kernel_rfl) | (rw [if_neg (by decide +kernel)];exact ⟨rfl,rfl⟩)
theorem c4:Tryz.f3.isInstance Tryz.pinned.checked.prog Rows.auditCountsRow.origin Rows.auditCountsRow.targs:=of_decide_eq_true (by kernel_rfl)
theorem laid:laidOutB Tryz.prog=true:=by kernel_rfl
theorem read25:Tryz.prog.readableRec 25=true:=by kernel_rfl
theorem lt25:25<Tryz.prog.types.size:=of_decide_eq_true (by kernel_rfl)
theorem own:ownKnob Tryz.prog.godebug=none:=by kernel_rfl
end Go.Proofs.YtleeccmcgophfaaGreat.auditCounts
