import Derived.Test.YtleeccmcgophfaaRows
import Derived.ProofKit
import Derived.OpenShut
import Derived.Carry
import Derived.WideKeyArgs
set_option linter.all false
namespace Go.Proofs.Ytleeccmcgophfaa.sweepJust
set_option linter.all false
open Go Go.ChangeShapes Go.WideShapes Go.ChangeAt Go.RowKit
theorem c1:Try.pinned.checked.prog.funcNamed Rows.sweepJustRow.func=some 3:=by kernel_rfl
theorem k10:(Rows.sweepJustRow.inPlace==Program.inPlace Try.pinned.checked.prog 3)=true:=by kernel_rfl
theorem k11:(Rows.sweepJustRow.unfollowed==Program.unfollowed Try.pinned.checked.prog 3)=true:=by kernel_rfl
theorem k12:(Rows.sweepJustRow.recurses==Program.recurses Try.pinned.checked.prog 3)=true:=by kernel_rfl
theorem k13:(Rows.sweepJustRow.named==Program.varsNamed Try.pinned.checked.prog 3)=true:=by kernel_rfl
theorem c2:joinedFacts Try.pinned.checked.prog 3 Try.f3 Rows.sweepJustSpec Rows.sweepJustRow=true:=by
 unfold joinedFacts
 rw [k10,k11,k12,k13]
 kernel_rfl
theorem c3:Try.f3.isWrapper Try.pinned.checked.prog Rows.sweepJustRow.wrapper Rows.sweepJustRow.mainSum:=by
 unfold Func.isWrapper;first | (rw [if_pos (by decide +kernel)];kernel_rfl) | (rw [if_neg (by decide +kernel)];exact ⟨rfl,rfl⟩)
theorem c4:Try.f3.isInstance Try.pinned.checked.prog Rows.sweepJustRow.origin Rows.sweepJustRow.targs:=of_decide_eq_true (by kernel_rfl)
theorem laid:laidOutB Try.prog=true:=by kernel_rfl
theorem aaC:Try.prog.readableRec 25=true:=by kernel_rfl
theorem abY:25<Try.prog.types.size:=of_decide_eq_true (by kernel_rfl)
theorem own:ownKnob Try.prog.godebug=none:=by kernel_rfl
end Go.Proofs.Ytleeccmcgophfaa.sweepJust
