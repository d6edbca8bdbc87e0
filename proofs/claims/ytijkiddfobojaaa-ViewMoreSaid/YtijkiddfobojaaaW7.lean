import Derived.Test.YtijkiddfobojaaaW3
namespace Go.Proofs.Ytijkiddfobojaaa
set_option linter.all false
set_option linter.unusedSimpArgs false
set_option linter.unusedVariables false
set_option maxRecDepth 20000
set_option maxHeartbeats 2000000
open Go Go.Ab Go.Proofs
def mkHead (id kind : Int) (l : List XPair) (q : Int) (f : Bool) : XObject := ⟨id, kind, l, q, f, [], [], [], ⟨funOf [0, 0, 0, 0, 0, 0, 0, 0, 0, 0, 0, 0, 0, 0, 0, 0], 0, [], ⟨0, 0⟩, 0, 0, 0, ⟨⟨0, 0⟩, 0, 0, false⟩, [], ⟨0, 0⟩, funOf [[], [], [], []]⟩, ⟨[], [], ⟨0, 0⟩, 0, 0⟩, [], []⟩
/-- What a container's readers see of any object in it. -/
def headO (o : XObject) : XObject := mkHead o.id o.kind (if o.kind = 4 then [] else o.label) o.quota o.fixed
theorem f94_ok (o : XObject) : PureOK Try.prog 94 [XObject.enc o] [XObject.enc (headO o)] := by
  refine PureOK.of_body' [] Try.func94 (by rfl) (by simp [Try.f94]) (fun hwf => ?_)
  simp -implicitDefEqProofs (maxSteps := 4000000) only [go_sem, Nat.reduceAdd, Nat.reduceSub, Nat.reduceMul, Nat.reduceLT, Nat.reduceEqDiff, Nat.reduceLeDiff, Nat.reduceBEq, Int.reduceLE, Int.reduceEq, Int.reduceNe, Int.reduceLT, Int.reduceToNat, reduceCtorEq, Try.f94]
  refine ⟨fun h => ?_, fun h => ?_⟩
  · have h' : o.kind = 4 := by simpa using h
    simp [headO, h', mkHead]
  · have h' : o.kind ≠ 4 := by simpa using h
    simp [headO, h', mkHead]
end Go.Proofs.Ytijkiddfobojaaa
