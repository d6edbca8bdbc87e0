import Derived.Test.YtijkiddfobojaaaT3
namespace Go.Proofs.Ytijkiddfobojaaa
set_option linter.all false
set_option linter.unusedSimpArgs false
set_option linter.unusedVariables false
set_option maxRecDepth 20000
set_option maxHeartbeats 2000000
open Go Go.Ab Go.Proofs
theorem f19_ok (a b : List XPair) : PureOK Try.prog 19 [encL XPair.enc a, encL XPair.enc b] [.b (same a b)] := by
  refine PureOK.of_body' [] Try.func19 (by rfl) (by simp [Try.f19]) (fun hwf => ?_)
  simp -implicitDefEqProofs (maxSteps := 4000000) only [go_sem, Nat.reduceAdd, Nat.reduceSub, Nat.reduceMul, Nat.reduceLT, Nat.reduceEqDiff, Nat.reduceLeDiff, Nat.reduceBEq, Int.reduceLE, Int.reduceEq, Int.reduceNe, Int.reduceLT, Int.reduceToNat, reduceCtorEq, Try.f19]
  refine TCall_pure (f41_ok a b) rfl ?_
  simp -implicitDefEqProofs (maxSteps := 4000000) only [go_sem, Nat.reduceAdd, Nat.reduceSub, Nat.reduceMul, Nat.reduceLT, Nat.reduceEqDiff, Nat.reduceLeDiff, Nat.reduceBEq, Int.reduceLE, Int.reduceEq, Int.reduceNe, Int.reduceLT, Int.reduceToNat, reduceCtorEq]
theorem f72_ok (l : Int) : PureOK Try.prog 72 [.i l] [.b (decide (0 ≤ l ∧ l ≤ 5))] := by
  refine PureOK.of_body' [] Try.func72 (by rfl) (by simp [Try.f72]) (fun hwf => ?_)
  simp -implicitDefEqProofs (maxSteps := 4000000) only [go_sem, Nat.reduceAdd, Nat.reduceSub, Nat.reduceMul, Nat.reduceLT, Nat.reduceEqDiff, Nat.reduceLeDiff, Nat.reduceBEq, Int.reduceLE, Int.reduceEq, Int.reduceNe, Int.reduceLT, Int.reduceToNat, reduceCtorEq, Try.f72]
  refine ⟨fun h => ?_, fun h => ?_⟩ <;> simp at h <;> simp [h] <;> omega
def readC (u : Int) : Int := (1000 + 2 * u) % 18446744073709551616
def writeC (u : Int) : Int := (1001 + 2 * u) % 18446744073709551616
theorem f15_ok (u : Int) : PureOK Try.prog 15 [.i u] [.u (readC u)] := by
  refine PureOK.of_body' [] Try.func15 (by rfl) (by simp [Try.f15]) (fun hwf => ?_)
  simp -implicitDefEqProofs (maxSteps := 4000000) only [go_sem, Nat.reduceAdd, Nat.reduceSub, Nat.reduceMul, Nat.reduceLT, Nat.reduceEqDiff, Nat.reduceLeDiff, Nat.reduceBEq, Int.reduceLE, Int.reduceEq, Int.reduceNe, Int.reduceLT, Int.reduceToNat, reduceCtorEq, Try.f15]
  simp only [wrap_u64, readC, D.v.injEq, Value.int.injEq, true_and]; omega
theorem f16_ok (u : Int) : PureOK Try.prog 16 [.i u] [.u (readC u)] := by
  refine PureOK.of_body' [] Try.func16 (by rfl) (by simp [Try.f16]) (fun hwf => ?_)
  simp -implicitDefEqProofs (maxSteps := 4000000) only [go_sem, Nat.reduceAdd, Nat.reduceSub, Nat.reduceMul, Nat.reduceLT, Nat.reduceEqDiff, Nat.reduceLeDiff, Nat.reduceBEq, Int.reduceLE, Int.reduceEq, Int.reduceNe, Int.reduceLT, Int.reduceToNat, reduceCtorEq, Try.f16]
  simp only [wrap_u64, readC, D.v.injEq, Value.int.injEq, true_and]; omega
theorem f17_ok (u : Int) : PureOK Try.prog 17 [.i u] [.u (writeC u)] := by
  refine PureOK.of_body' [] Try.func17 (by rfl) (by simp [Try.f17]) (fun hwf => ?_)
  simp -implicitDefEqProofs (maxSteps := 4000000) only [go_sem, Nat.reduceAdd, Nat.reduceSub, Nat.reduceMul, Nat.reduceLT, Nat.reduceEqDiff, Nat.reduceLeDiff, Nat.reduceBEq, Int.reduceLE, Int.reduceEq, Int.reduceNe, Int.reduceLT, Int.reduceToNat, reduceCtorEq, Try.f17]
  refine TCall_pure (f15_ok u) rfl ?_
  simp -implicitDefEqProofs (maxSteps := 4000000) only [go_sem, Nat.reduceAdd, Nat.reduceSub, Nat.reduceMul, Nat.reduceLT, Nat.reduceEqDiff, Nat.reduceLeDiff, Nat.reduceBEq, Int.reduceLE, Int.reduceEq, Int.reduceNe, Int.reduceLT, Int.reduceToNat, reduceCtorEq]
  simp only [wrap_u64, readC, writeC, D.v.injEq, Value.int.injEq, true_and]; omega
theorem f18_ok (u : Int) : PureOK Try.prog 18 [.i u] [.u (writeC u)] := by
  refine PureOK.of_body' [] Try.func18 (by rfl) (by simp [Try.f18]) (fun hwf => ?_)
  simp -implicitDefEqProofs (maxSteps := 4000000) only [go_sem, Nat.reduceAdd, Nat.reduceSub, Nat.reduceMul, Nat.reduceLT, Nat.reduceEqDiff, Nat.reduceLeDiff, Nat.reduceBEq, Int.reduceLE, Int.reduceEq, Int.reduceNe, Int.reduceLT, Int.reduceToNat, reduceCtorEq, Try.f18]
  simp only [wrap_u64, writeC, D.v.injEq, Value.int.injEq, true_and]; omega
theorem f113_ok (x : Int) : PureOK Try.prog 113 [.u x] [.b false] := by
  refine PureOK.of_body' [] Try.func113 (by rfl) (by simp [Try.f113]) (fun hwf => ?_)
  simp -implicitDefEqProofs (maxSteps := 4000000) only [go_sem, Nat.reduceAdd, Nat.reduceSub, Nat.reduceMul, Nat.reduceLT, Nat.reduceEqDiff, Nat.reduceLeDiff, Nat.reduceBEq, Int.reduceLE, Int.reduceEq, Int.reduceNe, Int.reduceLT, Int.reduceToNat, reduceCtorEq, Try.f113]
  simp
def cmpU (x y : Int) : Int := if x < y then -1 else if y < x then 1 else 0
theorem f107_ok (x y : Int) : PureOK Try.prog 107 [.u x, .u y] [.i (cmpU x y)] := by
  refine PureOK.of_body' [] Try.func107 (by rfl) (by simp [Try.f107]) (fun hwf => ?_)
  simp -implicitDefEqProofs (maxSteps := 4000000) only [go_sem, Nat.reduceAdd, Nat.reduceSub, Nat.reduceMul, Nat.reduceLT, Nat.reduceEqDiff, Nat.reduceLeDiff, Nat.reduceBEq, Int.reduceLE, Int.reduceEq, Int.reduceNe, Int.reduceLT, Int.reduceToNat, reduceCtorEq, Try.f107]
  refine TCall_pure (f113_ok x) rfl ?_
  simp -implicitDefEqProofs (maxSteps := 4000000) only [go_sem, Nat.reduceAdd, Nat.reduceSub, Nat.reduceMul, Nat.reduceLT, Nat.reduceEqDiff, Nat.reduceLeDiff, Nat.reduceBEq, Int.reduceLE, Int.reduceEq, Int.reduceNe, Int.reduceLT, Int.reduceToNat, reduceCtorEq]
  refine TCall_pure (f113_ok y) rfl ?_
  simp -implicitDefEqProofs (maxSteps := 4000000) only [go_sem, Nat.reduceAdd, Nat.reduceSub, Nat.reduceMul, Nat.reduceLT, Nat.reduceEqDiff, Nat.reduceLeDiff, Nat.reduceBEq, Int.reduceLE, Int.reduceEq, Int.reduceNe, Int.reduceLT, Int.reduceToNat, reduceCtorEq]
  refine ⟨fun h => ?_, fun h => ⟨fun h2 => ?_, fun h2 => ?_⟩⟩ <;> simp at h <;> (try simp at h2) <;> simp [cmpU] <;> omega
theorem f106_ok (q : XPair) (y : Int) : PureOK Try.prog 106 [q.enc, .u y] [.i (cmpU q.cat y)] := by
  refine PureOK.of_body' [] Try.func106 (by rfl) (by simp [Try.f106]) (fun hwf => ?_)
  simp -implicitDefEqProofs (maxSteps := 4000000) only [go_sem, Nat.reduceAdd, Nat.reduceSub, Nat.reduceMul, Nat.reduceLT, Nat.reduceEqDiff, Nat.reduceLeDiff, Nat.reduceBEq, Int.reduceLE, Int.reduceEq, Int.reduceNe, Int.reduceLT, Int.reduceToNat, reduceCtorEq, Try.f106]
  refine TCall_pure (f107_ok q.cat y) rfl ?_
  simp -implicitDefEqProofs (maxSteps := 4000000) only [go_sem, Nat.reduceAdd, Nat.reduceSub, Nat.reduceMul, Nat.reduceLT, Nat.reduceEqDiff, Nat.reduceLeDiff, Nat.reduceBEq, Int.reduceLE, Int.reduceEq, Int.reduceNe, Int.reduceLT, Int.reduceToNat, reduceCtorEq]
end Go.Proofs.Ytijkiddfobojaaa
