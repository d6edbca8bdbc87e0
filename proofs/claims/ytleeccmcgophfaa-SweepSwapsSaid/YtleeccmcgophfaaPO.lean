import Derived.Test.YtleeccmcgophfaaRows
import Derived.ProofKit
import Derived.OpenShut
import Derived.Carry
import Derived.WideKeyArgs
set_option linter.all false
namespace Go.Proofs.Ytleeccmcgophfaa.sweepSwaps
set_option linter.all false
open Go Go.ChangeShapes Go.WideShapes Go.ChangeAt Go.RowKit
theorem c1:Try.pinned.checked.prog.funcNamed Rows.sweepSwapsRow.func=some 5:=by kernel_rfl
theorem k10:(Rows.sweepSwapsRow.inPlace==Program.inPlace Try.pinned.checked.prog 5)=true:=by kernel_rfl
theorem k11:(Rows.sweepSwapsRow.unfollowed==Program.unfollowed Try.pinned.checked.prog 5)=true:=by kernel_rfl
theorem k12:(Rows.sweepSwapsRow.recurses==Program.recurses Try.pinned.checked.prog 5)=true:=by kernel_rfl
theorem k13:(Rows.sweepSwapsRow.named==Program.varsNamed Try.pinned.checked.prog 5)=true:=by kernel_rfl
theorem c2:joinedFacts Try.pinned.checked.prog 5 Try.f5 Rows.sweepSwapsSpec Rows.sweepSwapsRow=true:=by
 unfold joinedFacts
 rw [k10,k11,k12,k13]
 kernel_rfl
theorem c3:Try.f5.isWrapper Try.pinned.checked.prog Rows.sweepSwapsRow.wrapper Rows.sweepSwapsRow.mainSum:=by
 unfold Func.isWrapper;first | (rw [if_pos (by decide +kernel)];kernel_rfl) | (rw [if_neg (by decide +kernel)];exact ⟨rfl,rfl⟩)
theorem c4:Try.f5.isInstance Try.pinned.checked.prog Rows.sweepSwapsRow.origin Rows.sweepSwapsRow.targs:=of_decide_eq_true (by kernel_rfl)
theorem laid:laidOutB Try.prog=true:=by kernel_rfl
theorem read25:Try.prog.readableRec 25=true:=by kernel_rfl
theorem lt25:25<Try.prog.types.size:=of_decide_eq_true (by kernel_rfl)
theorem own:ownKnob Try.prog.godebug=none:=by kernel_rfl
end Go.Proofs.Ytleeccmcgophfaa.sweepSwaps
