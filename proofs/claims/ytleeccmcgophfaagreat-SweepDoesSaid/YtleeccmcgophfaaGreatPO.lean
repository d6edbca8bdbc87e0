import Derived.Test.YtleeccmcgophfaaGreatPN
import Derived.Test.YtleeccmcgophfaaGreatRows
import Derived.ProofKit
import Derived.OpenShut
import Derived.Carry
import Derived.WideKeyArgs
set_option linter.all false
namespace Go.Proofs.YtleeccmcgophfaaGreat.sweepDoes
open Go Go.ChangeShapes Go.WideShapes Go.ChangeAt Go.RowKit
theorem c1:Tryz.pinned.checked.prog.funcNamed Rows.sweepDoesRow.func=some 4:=by kernel_rfl
theorem k10:(Rows.sweepDoesRow.inPlace==Program.inPlace Tryz.pinned.checked.prog 4)=true:=by kernel_rfl
theorem k11:(Rows.sweepDoesRow.unfollowed==Program.unfollowed Tryz.pinned.checked.prog 4)=true:=by kernel_rfl
theorem k12:(Rows.sweepDoesRow.recurses==Program.recurses Tryz.pinned.checked.prog 4)=true:=by kernel_rfl
theorem k13:(Rows.sweepDoesRow.named==Program.varsNamed Tryz.pinned.checked.prog 4)=true:=by kernel_rfl
theorem c2:joinedFacts Tryz.pinned.checked.prog 4 Tryz.f4 Rows.sweepDoesSpec Rows.sweepDoesRow=true:=by
 unfold joinedFacts
 rw [k10,k11,k12,k13]
 kernel_rfl
theorem c3:Tryz.f4.isWrapper Tryz.pinned.checked.prog Rows.sweepDoesRow.wrapper Rows.sweepDoesRow.mainSum:=by
 unfold Func.isWrapper;first | (rw [if_pos (by decide +kernel)];kernel_rfl) | (rw [if_neg (by decide +kernel)];exact ⟨rfl,rfl⟩)
theorem c4:Tryz.f4.isInstance Tryz.pinned.checked.prog Rows.sweepDoesRow.origin Rows.sweepDoesRow.targs:=of_decide_eq_true (by kernel_rfl)
theorem laid:laidOutB Tryz.prog=true:=by kernel_rfl
theorem ZG:Tryz.prog.readableRec 25=true:=by kernel_rfl
theorem acf:25<Tryz.prog.types.size:=of_decide_eq_true (by kernel_rfl)
theorem own:ownKnob Tryz.prog.godebug=none:=by kernel_rfl
end Go.Proofs.YtleeccmcgophfaaGreat.sweepDoes
