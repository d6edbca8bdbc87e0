import Derived.Test.YtleeccmcgophfaaRows
import Derived.ProofKit
import Derived.OpenShut
import Derived.Carry
import Derived.WideKeyArgs
set_option linter.all false
namespace Go.Proofs.Ytleeccmcgophfaa.sweepFound
set_option linter.all false
open Go Go.ChangeShapes Go.WideShapes Go.ChangeAt Go.RowKit
theorem c1:Try.pinned.checked.prog.funcNamed Rows.sweepFoundRow.func=some 4:=by kernel_rfl
theorem k10:(Rows.sweepFoundRow.inPlace==Program.inPlace Try.pinned.checked.prog 4)=true:=by kernel_rfl
theorem k11:(Rows.sweepFoundRow.unfollowed==Program.unfollowed Try.pinned.checked.prog 4)=true:=by kernel_rfl
theorem k12:(Rows.sweepFoundRow.recurses==Program.recurses Try.pinned.checked.prog 4)=true:=by kernel_rfl
theorem k13:(Rows.sweepFoundRow.named==Program.varsNamed Try.pinned.checked.prog 4)=true:=by kernel_rfl
theorem c2:joinedFacts Try.pinned.checked.prog 4 Try.f4 Rows.sweepFoundSpec Rows.sweepFoundRow=true:=by
 unfold joinedFacts
 rw [k10,k11,k12,k13]
 kernel_rfl
theorem c3:Try.f4.isWrapper Try.pinned.checked.prog Rows.sweepFoundRow.wrapper Rows.sweepFoundRow.mainSum:=by
 unfold Func.isWrapper;first | (rw [if_pos (by decide +kernel)];kernel_rfl) | (rw [if_neg (by decide +kernel)];exact ⟨rfl,rfl⟩)
theorem c4:Try.f4.isInstance Try.pinned.checked.prog Rows.sweepFoundRow.origin Rows.sweepFoundRow.targs:=of_decide_eq_true (by kernel_rfl)
theorem laid:laidOutB Try.prog=true:=by kernel_rfl
theorem YZ:Try.prog.readableRec 25=true:=by kernel_rfl
theorem aap:25<Try.prog.types.size:=of_decide_eq_true (by kernel_rfl)
theorem own:ownKnob Try.prog.godebug=none:=by kernel_rfl
end Go.Proofs.Ytleeccmcgophfaa.sweepFound
