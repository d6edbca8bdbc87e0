import Derived.Test.YtijkiddfobojaaaT5
namespace Go.Proofs.Ytijkiddfobojaaa
set_option linter.all false
set_option linter.unusedSimpArgs false
set_option linter.unusedVariables false
set_option maxRecDepth 20000
set_option maxHeartbeats 2000000
open Go Go.Ab Go.Proofs
theorem f73_ok (l : List XPair) (t : Int) : PureOK Try.prog 73 [encL XPair.enc l, .u t] [.i (bsFind l t 0 l.length), .b (bsHas l t (bsFind l t 0 l.length))] := by
  refine PureOK.of_body' [] Try.func73 (by rfl) (by simp [Try.f73]) (fun hwf => ?_)
  simp -implicitDefEqProofs (maxSteps := 4000000) only [go_sem, Nat.reduceAdd, Nat.reduceSub, Nat.reduceMul, Nat.reduceLT, Nat.reduceEqDiff, Nat.reduceLeDiff, Nat.reduceBEq, Int.reduceLE, Int.reduceEq, Int.reduceNe, Int.reduceLT, Int.reduceToNat, reduceCtorEq, Try.f73]
  refine TCall_pure (f105_ok l t) (by simp -implicitDefEqProofs (maxSteps := 4000000) only [go_sem, Nat.reduceAdd, Nat.reduceSub, Nat.reduceMul, Nat.reduceLT, Nat.reduceEqDiff, Nat.reduceLeDiff, Nat.reduceBEq, Int.reduceLE, Int.reduceEq, Int.reduceNe, Int.reduceLT, Int.reduceToNat, reduceCtorEq]) ?_
  simp -implicitDefEqProofs (maxSteps := 4000000) only [go_sem, Nat.reduceAdd, Nat.reduceSub, Nat.reduceMul, Nat.reduceLT, Nat.reduceEqDiff, Nat.reduceLeDiff, Nat.reduceBEq, Int.reduceLE, Int.reduceEq, Int.reduceNe, Int.reduceLT, Int.reduceToNat, reduceCtorEq]
theorem bsHas_len (l : List XPair) (c : Int) : bsHas l c l.length = false := by simp [bsHas]
theorem f42_ok (l : List XPair) (c v : Int) (hv : 0 ≤ v ∧ v ≤ 5 ∧ v ≠ 2) (h1 : bsFind l c 0 l.length = l.length) (h2 : l.length < 16) : PureOK Try.prog 42 [encL XPair.enc l, .u c, .i v] [encL XPair.enc (l ++ [⟨c, v⟩]), .v (.int .i64 0)] := by
  refine PureOK.of_body' [] Try.func42 (by rfl) (by simp [Try.f42]) (fun hwf => ?_)
  simp -implicitDefEqProofs (maxSteps := 4000000) only [go_sem, Nat.reduceAdd, Nat.reduceSub, Nat.reduceMul, Nat.reduceLT, Nat.reduceEqDiff, Nat.reduceLeDiff, Nat.reduceBEq, Int.reduceLE, Int.reduceEq, Int.reduceNe, Int.reduceLT, Int.reduceToNat, reduceCtorEq, Try.f42]
  refine TCall_pure (f72_ok v) (by simp -implicitDefEqProofs (maxSteps := 4000000) only [go_sem, Nat.reduceAdd, Nat.reduceSub, Nat.reduceMul, Nat.reduceLT, Nat.reduceEqDiff, Nat.reduceLeDiff, Nat.reduceBEq, Int.reduceLE, Int.reduceEq, Int.reduceNe, Int.reduceLT, Int.reduceToNat, reduceCtorEq]) ?_
  have hd : decide (0 ≤ v ∧ v ≤ 5) = true := by simp; omega
  have hv2 : (v == 2) = false := by simp; exact hv.2.2
  simp -implicitDefEqProofs (maxSteps := 4000000) only [go_sem, Nat.reduceAdd, Nat.reduceSub, Nat.reduceMul, Nat.reduceLT, Nat.reduceEqDiff, Nat.reduceLeDiff, Nat.reduceBEq, Int.reduceLE, Int.reduceEq, Int.reduceNe, Int.reduceLT, Int.reduceToNat, reduceCtorEq, hd]
  refine TCall_pure (f73_ok l c) (by simp -implicitDefEqProofs (maxSteps := 4000000) only [go_sem, Nat.reduceAdd, Nat.reduceSub, Nat.reduceMul, Nat.reduceLT, Nat.reduceEqDiff, Nat.reduceLeDiff, Nat.reduceBEq, Int.reduceLE, Int.reduceEq, Int.reduceNe, Int.reduceLT, Int.reduceToNat, reduceCtorEq]) ?_
  have hh := bsHas_len l c
  rw [h1, hh]
  simp -implicitDefEqProofs (maxSteps := 4000000) only [go_sem, Nat.reduceAdd, Nat.reduceSub, Nat.reduceMul, Nat.reduceLT, Nat.reduceEqDiff, Nat.reduceLeDiff, Nat.reduceBEq, Int.reduceLE, Int.reduceEq, Int.reduceNe, Int.reduceLT, Int.reduceToNat, reduceCtorEq]
  refine TCall_enter [74] Try.func74 (by rfl) (by simp [Try.f74]) ?_
  simp -implicitDefEqProofs (maxSteps := 4000000) only [go_sem, Nat.reduceAdd, Nat.reduceSub, Nat.reduceMul, Nat.reduceLT, Nat.reduceEqDiff, Nat.reduceLeDiff, Nat.reduceBEq, Int.reduceLE, Int.reduceEq, Int.reduceNe, Int.reduceLT, Int.reduceToNat, reduceCtorEq, Try.f74, encL, hv2, tby55]
  refine ⟨fun hnil => ?_, ?_⟩
  · have : l = [] := by simpa using hnil
    subst this
    simp only [List.length_nil]
    refine TCall_enter [76] Try.func76 (by rfl) (by simp [Try.f76]) ?_
    simp -implicitDefEqProofs (maxSteps := 4000000) only [go_sem, Nat.reduceAdd, Nat.reduceSub, Nat.reduceMul, Nat.reduceLT, Nat.reduceEqDiff, Nat.reduceLeDiff, Nat.reduceBEq, Int.reduceLE, Int.reduceEq, Int.reduceNe, Int.reduceLT, Int.reduceToNat, reduceCtorEq, Try.f76]
    simp [XPair.agg]
  · refine ⟨by simp [XPair.len], by omega, by omega, ?_⟩
    refine TCall_enter [76] Try.func76 (by rfl) (by simp [Try.f76]) ?_
    simp -implicitDefEqProofs (maxSteps := 4000000) only [go_sem, Nat.reduceAdd, Nat.reduceSub, Nat.reduceMul, Nat.reduceLT, Nat.reduceEqDiff, Nat.reduceLeDiff, Nat.reduceBEq, Int.reduceLE, Int.reduceEq, Int.reduceNe, Int.reduceLT, Int.reduceToNat, reduceCtorEq, Try.f76, tby55]
    refine ⟨Int.le_refl _, Int.le_refl _, fun _ => by simp [XPair.len], fun h => by simp at h, fun _ => ⟨by omega, by omega, fun h => ?_, fun _ => by simp [XPair.agg]⟩⟩
    simp at h; omega
theorem bs1 (c v t : Int) (h : c < t) : bsFind [⟨c, v⟩] t 0 1 = 1 := by
  unfold bsFind; simp [cmpU, h]; unfold bsFind; simp
theorem bs0 (t : Int) : bsFind [] t 0 0 = 0 := by
  unfold bsFind; simp
end Go.Proofs.Ytijkiddfobojaaa
