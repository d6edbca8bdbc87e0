import Derived.Test.YtijkiddfobojaaaT6
namespace Go.Proofs.Ytijkiddfobojaaa
set_option linter.all false
set_option linter.unusedSimpArgs false
set_option linter.unusedVariables false
set_option maxRecDepth 20000
set_option maxHeartbeats 2000000
open Go Go.Ab Go.Proofs
theorem and1 (m : Int) : ((BitVec.ofInt 64 m &&& BitVec.ofInt 64 1).toNat : Int) = m % 2 := by
  rw [BitVec.toNat_and, show (BitVec.ofInt 64 1).toNat = 1 from by decide, Nat.and_one_is_mod, BitVec.toNat_ofInt]
  omega
theorem nat_and2 (n : Nat) : n &&& 2 = n / 2 % 2 * 2 := by
  apply Nat.eq_of_testBit_eq
  intro i
  rw [Nat.testBit_and]
  rcases i with _ | _ | i
  · simp
  · simp [Nat.testBit_succ]
    try (by_cases h : n / 2 % 2 = 1 <;> simp [h] <;> omega)
  · simp [Nat.testBit_succ]
    try (rw [Nat.div_eq_of_lt (by omega)]; simp)
theorem and2 (m : Int) : ((BitVec.ofInt 64 m &&& BitVec.ofInt 64 2).toNat : Int) = m / 2 % 2 * 2 := by
  rw [BitVec.toNat_and, show (BitVec.ofInt 64 2).toNat = 2 from by decide, nat_and2, BitVec.toNat_ofInt]
  omega
theorem wrapU_ofInt (m : Int) : BitVec.ofInt 64 (IntKind.u64.wrap m) = BitVec.ofInt 64 m := by
  apply BitVec.eq_of_toNat_eq
  rw [BitVec.toNat_ofInt, BitVec.toNat_ofInt, wrap_u64]; omega
theorem andI_1 (m : Int) : andI .i64 m 1 = m % 2 := by
  show IntKind.i64.wrap ((BitVec.ofInt 64 m &&& BitVec.ofInt 64 1).toNat : Int) = _
  rw [and1, wrap_i64] <;> omega
theorem andI_2 (m : Int) : andI .i64 m 2 = m / 2 % 2 * 2 := by
  show IntKind.i64.wrap ((BitVec.ofInt 64 m &&& BitVec.ofInt 64 2).toNat : Int) = _
  rw [and2, wrap_i64] <;> omega
theorem andU_1 (m : Int) : andI .u64 (IntKind.u64.wrap m) 1 = m % 2 := by
  show IntKind.u64.wrap ((BitVec.ofInt 64 (IntKind.u64.wrap m) &&& BitVec.ofInt 64 1).toNat : Int) = _
  rw [wrapU_ofInt, and1, wrap_u64]; omega
theorem andU_2 (m : Int) : andI .u64 (IntKind.u64.wrap m) 2 = m / 2 % 2 * 2 := by
  show IntKind.u64.wrap ((BitVec.ofInt 64 (IntKind.u64.wrap m) &&& BitVec.ofInt 64 2).toNat : Int) = _
  rw [wrapU_ofInt, and2, wrap_u64]; omega
theorem c1 (m : Int) : (m % 2 == 0) = decide (m % 2 = 0) := rfl
theorem c2 (m : Int) : (m / 2 % 2 * 2 == 0) = decide (m % 4 < 2) := by
  rw [Bool.eq_iff_iff]; simp; omega
/-- The label of what belongs to a user. -/
def lab (u m : Int) : List XPair := (if m % 2 = 0 then [⟨readC u, 4⟩] else []) ++ (if m % 4 < 2 then [⟨writeC u, 1⟩] else [])
theorem f20_ok (u m : Int) (hu : 0 ≤ u ∧ u ≤ 2) : PureOK Try.prog 20 [.i u, .i m] [encL XPair.enc (lab u m)] := by
  refine PureOK.of_body' [] Try.func20 (by rfl) (by simp [Try.f20]) (fun hwf => ?_)
  simp -implicitDefEqProofs (maxSteps := 4000000) only [go_sem, Nat.reduceAdd, Nat.reduceSub, Nat.reduceMul, Nat.reduceLT, Nat.reduceEqDiff, Nat.reduceLeDiff, Nat.reduceBEq, Int.reduceLE, Int.reduceEq, Int.reduceNe, Int.reduceLT, Int.reduceToNat, reduceCtorEq, Try.f20, andI_1, andI_2, c1, c2]
  refine ⟨fun h1 => ?_, fun h1 => ⟨fun h2 => ?_, fun h2 => ?_⟩⟩ <;> simp only [decide_eq_true_eq, decide_eq_false_iff_not] at h1
  · refine TCall_pure (f15_ok u) (by simp -implicitDefEqProofs (maxSteps := 4000000) only [go_sem, Nat.reduceAdd, Nat.reduceSub, Nat.reduceMul, Nat.reduceLT, Nat.reduceEqDiff, Nat.reduceLeDiff, Nat.reduceBEq, Int.reduceLE, Int.reduceEq, Int.reduceNe, Int.reduceLT, Int.reduceToNat, reduceCtorEq]) ?_
    simp -implicitDefEqProofs (maxSteps := 4000000) only [go_sem, Nat.reduceAdd, Nat.reduceSub, Nat.reduceMul, Nat.reduceLT, Nat.reduceEqDiff, Nat.reduceLeDiff, Nat.reduceBEq, Int.reduceLE, Int.reduceEq, Int.reduceNe, Int.reduceLT, Int.reduceToNat, reduceCtorEq]
    refine TCall_pure (f42_ok [] (readC u) 4 (by omega) (bs0 _) (by simp)) (by simp -implicitDefEqProofs (maxSteps := 4000000) only [go_sem, Nat.reduceAdd, Nat.reduceSub, Nat.reduceMul, Nat.reduceLT, Nat.reduceEqDiff, Nat.reduceLeDiff, Nat.reduceBEq, Int.reduceLE, Int.reduceEq, Int.reduceNe, Int.reduceLT, Int.reduceToNat, reduceCtorEq, encL]) ?_
    simp -implicitDefEqProofs (maxSteps := 4000000) only [go_sem, Nat.reduceAdd, Nat.reduceSub, Nat.reduceMul, Nat.reduceLT, Nat.reduceEqDiff, Nat.reduceLeDiff, Nat.reduceBEq, Int.reduceLE, Int.reduceEq, Int.reduceNe, Int.reduceLT, Int.reduceToNat, reduceCtorEq, andI_1, andI_2, c1, c2]
    refine ⟨fun h2 => ?_, fun h2 => ?_⟩ <;> simp only [decide_eq_true_eq, decide_eq_false_iff_not] at h2
    · refine TCall_pure (f17_ok u) (by simp -implicitDefEqProofs (maxSteps := 4000000) only [go_sem, Nat.reduceAdd, Nat.reduceSub, Nat.reduceMul, Nat.reduceLT, Nat.reduceEqDiff, Nat.reduceLeDiff, Nat.reduceBEq, Int.reduceLE, Int.reduceEq, Int.reduceNe, Int.reduceLT, Int.reduceToNat, reduceCtorEq]) ?_
      simp -implicitDefEqProofs (maxSteps := 4000000) only [go_sem, Nat.reduceAdd, Nat.reduceSub, Nat.reduceMul, Nat.reduceLT, Nat.reduceEqDiff, Nat.reduceLeDiff, Nat.reduceBEq, Int.reduceLE, Int.reduceEq, Int.reduceNe, Int.reduceLT, Int.reduceToNat, reduceCtorEq]
      refine TCall_pure (f42_ok ([] ++ [⟨readC u, 4⟩]) (writeC u) 1 (by omega) (bs1 _ _ _ (by unfold readC writeC; omega)) (by simp)) (by simp -implicitDefEqProofs (maxSteps := 4000000) only [go_sem, Nat.reduceAdd, Nat.reduceSub, Nat.reduceMul, Nat.reduceLT, Nat.reduceEqDiff, Nat.reduceLeDiff, Nat.reduceBEq, Int.reduceLE, Int.reduceEq, Int.reduceNe, Int.reduceLT, Int.reduceToNat, reduceCtorEq]) ?_
      simp -implicitDefEqProofs (maxSteps := 4000000) only [go_sem, Nat.reduceAdd, Nat.reduceSub, Nat.reduceMul, Nat.reduceLT, Nat.reduceEqDiff, Nat.reduceLeDiff, Nat.reduceBEq, Int.reduceLE, Int.reduceEq, Int.reduceNe, Int.reduceLT, Int.reduceToNat, reduceCtorEq]
      simp [lab, h1, h2]
    · simp [lab, h1, h2]
  · simp only [decide_eq_true_eq, decide_eq_false_iff_not] at h2
    refine TCall_pure (f17_ok u) (by simp -implicitDefEqProofs (maxSteps := 4000000) only [go_sem, Nat.reduceAdd, Nat.reduceSub, Nat.reduceMul, Nat.reduceLT, Nat.reduceEqDiff, Nat.reduceLeDiff, Nat.reduceBEq, Int.reduceLE, Int.reduceEq, Int.reduceNe, Int.reduceLT, Int.reduceToNat, reduceCtorEq]) ?_
    simp -implicitDefEqProofs (maxSteps := 4000000) only [go_sem, Nat.reduceAdd, Nat.reduceSub, Nat.reduceMul, Nat.reduceLT, Nat.reduceEqDiff, Nat.reduceLeDiff, Nat.reduceBEq, Int.reduceLE, Int.reduceEq, Int.reduceNe, Int.reduceLT, Int.reduceToNat, reduceCtorEq]
    refine TCall_pure (f42_ok [] (writeC u) 1 (by omega) (bs0 _) (by simp)) (by simp -implicitDefEqProofs (maxSteps := 4000000) only [go_sem, Nat.reduceAdd, Nat.reduceSub, Nat.reduceMul, Nat.reduceLT, Nat.reduceEqDiff, Nat.reduceLeDiff, Nat.reduceBEq, Int.reduceLE, Int.reduceEq, Int.reduceNe, Int.reduceLT, Int.reduceToNat, reduceCtorEq, encL]) ?_
    simp -implicitDefEqProofs (maxSteps := 4000000) only [go_sem, Nat.reduceAdd, Nat.reduceSub, Nat.reduceMul, Nat.reduceLT, Nat.reduceEqDiff, Nat.reduceLeDiff, Nat.reduceBEq, Int.reduceLE, Int.reduceEq, Int.reduceNe, Int.reduceLT, Int.reduceToNat, reduceCtorEq]
    simp [lab, h1, h2]
  · simp only [decide_eq_true_eq, decide_eq_false_iff_not] at h2
    simp [lab, h1, h2, encL]
theorem f21_ok (u m : Int) : PureOK Try.prog 21 [.i u, .i m] [encL XPair.enc (lab u m)] := by
  refine PureOK.of_body' [] Try.func21 (by rfl) (by simp [Try.f21]) (fun hwf => ?_)
  simp -implicitDefEqProofs (maxSteps := 4000000) only [go_sem, Nat.reduceAdd, Nat.reduceSub, Nat.reduceMul, Nat.reduceLT, Nat.reduceEqDiff, Nat.reduceLeDiff, Nat.reduceBEq, Int.reduceLE, Int.reduceEq, Int.reduceNe, Int.reduceLT, Int.reduceToNat, reduceCtorEq, Try.f21, andU_1, andU_2, c1, c2]
  refine ⟨fun h1 => ?_, fun h1 => ⟨fun h2 => ?_, fun h2 => ?_⟩⟩ <;> simp only [decide_eq_true_eq, decide_eq_false_iff_not] at h1
  · refine TCall_pure (f16_ok u) (by simp -implicitDefEqProofs (maxSteps := 4000000) only [go_sem, Nat.reduceAdd, Nat.reduceSub, Nat.reduceMul, Nat.reduceLT, Nat.reduceEqDiff, Nat.reduceLeDiff, Nat.reduceBEq, Int.reduceLE, Int.reduceEq, Int.reduceNe, Int.reduceLT, Int.reduceToNat, reduceCtorEq]) ?_
    simp -implicitDefEqProofs (maxSteps := 4000000) only [go_sem, Nat.reduceAdd, Nat.reduceSub, Nat.reduceMul, Nat.reduceLT, Nat.reduceEqDiff, Nat.reduceLeDiff, Nat.reduceBEq, Int.reduceLE, Int.reduceEq, Int.reduceNe, Int.reduceLT, Int.reduceToNat, reduceCtorEq, andU_1, andU_2, c1, c2, tby55]
    refine ⟨fun h2 => ?_, fun h2 => ?_⟩ <;> simp only [decide_eq_true_eq, decide_eq_false_iff_not] at h2
    · refine TCall_pure (f18_ok u) (by simp -implicitDefEqProofs (maxSteps := 4000000) only [go_sem, Nat.reduceAdd, Nat.reduceSub, Nat.reduceMul, Nat.reduceLT, Nat.reduceEqDiff, Nat.reduceLeDiff, Nat.reduceBEq, Int.reduceLE, Int.reduceEq, Int.reduceNe, Int.reduceLT, Int.reduceToNat, reduceCtorEq]) ?_
      simp -implicitDefEqProofs (maxSteps := 4000000) only [go_sem, Nat.reduceAdd, Nat.reduceSub, Nat.reduceMul, Nat.reduceLT, Nat.reduceEqDiff, Nat.reduceLeDiff, Nat.reduceBEq, Int.reduceLE, Int.reduceEq, Int.reduceNe, Int.reduceLT, Int.reduceToNat, reduceCtorEq, tby55]
      simp [lab, h1, h2, encL, XPair.agg]
    · simp [lab, h1, h2, encL, XPair.agg]
  · simp only [decide_eq_true_eq, decide_eq_false_iff_not] at h2
    refine TCall_pure (f18_ok u) (by simp -implicitDefEqProofs (maxSteps := 4000000) only [go_sem, Nat.reduceAdd, Nat.reduceSub, Nat.reduceMul, Nat.reduceLT, Nat.reduceEqDiff, Nat.reduceLeDiff, Nat.reduceBEq, Int.reduceLE, Int.reduceEq, Int.reduceNe, Int.reduceLT, Int.reduceToNat, reduceCtorEq]) ?_
    simp -implicitDefEqProofs (maxSteps := 4000000) only [go_sem, Nat.reduceAdd, Nat.reduceSub, Nat.reduceMul, Nat.reduceLT, Nat.reduceEqDiff, Nat.reduceLeDiff, Nat.reduceBEq, Int.reduceLE, Int.reduceEq, Int.reduceNe, Int.reduceLT, Int.reduceToNat, reduceCtorEq, tby55]
    simp [lab, h1, h2, encL, XPair.agg]
  · simp only [decide_eq_true_eq, decide_eq_false_iff_not] at h2
    simp [lab, h1, h2, encL]
theorem f22_ok : PureOK Try.prog 22 [] [.b true] := by
  refine PureOK.of_body' [] Try.func22 (by rfl) (by simp [Try.f22]) (fun hwf => ?_)
  simp -implicitDefEqProofs (maxSteps := 4000000) only [go_sem, Nat.reduceAdd, Nat.reduceSub, Nat.reduceMul, Nat.reduceLT, Nat.reduceEqDiff, Nat.reduceLeDiff, Nat.reduceBEq, Int.reduceLE, Int.reduceEq, Int.reduceNe, Int.reduceLT, Int.reduceToNat, reduceCtorEq, Try.f22]
  refine TCall_pure (f20_ok 1 1 (by decide)) (by simp -implicitDefEqProofs (maxSteps := 4000000) only [go_sem, Nat.reduceAdd, Nat.reduceSub, Nat.reduceMul, Nat.reduceLT, Nat.reduceEqDiff, Nat.reduceLeDiff, Nat.reduceBEq, Int.reduceLE, Int.reduceEq, Int.reduceNe, Int.reduceLT, Int.reduceToNat, reduceCtorEq]) ?_
  have hl : lab 1 1 = [⟨1003, 1⟩] := by simp [lab, readC, writeC]
  rw [hl]
  simp -implicitDefEqProofs (maxSteps := 4000000) only [go_sem, Nat.reduceAdd, Nat.reduceSub, Nat.reduceMul, Nat.reduceLT, Nat.reduceEqDiff, Nat.reduceLeDiff, Nat.reduceBEq, Int.reduceLE, Int.reduceEq, Int.reduceNe, Int.reduceLT, Int.reduceToNat, reduceCtorEq, encL, XPair.agg, takeD]
  refine TCall_pure (f15_ok 0) (by simp -implicitDefEqProofs (maxSteps := 4000000) only [go_sem, Nat.reduceAdd, Nat.reduceSub, Nat.reduceMul, Nat.reduceLT, Nat.reduceEqDiff, Nat.reduceLeDiff, Nat.reduceBEq, Int.reduceLE, Int.reduceEq, Int.reduceNe, Int.reduceLT, Int.reduceToNat, reduceCtorEq]) ?_
  simp -implicitDefEqProofs (maxSteps := 4000000) only [go_sem, Nat.reduceAdd, Nat.reduceSub, Nat.reduceMul, Nat.reduceLT, Nat.reduceEqDiff, Nat.reduceLeDiff, Nat.reduceBEq, Int.reduceLE, Int.reduceEq, Int.reduceNe, Int.reduceLT, Int.reduceToNat, reduceCtorEq]
  simp [readC]
theorem same_self (l : List XPair) : same l l = true := by
  induction l with
  | nil => rfl
  | cons x l ih => simp [same, ih]
theorem f4_ok (u m : Int) : PureOK Try.prog 4 [.i u, .i m] [.b true] := by
  refine PureOK.of_body' [] Try.func4 (by rfl) (by simp [Try.f4]) (fun hwf => ?_)
  simp -implicitDefEqProofs (maxSteps := 4000000) only [go_sem, Nat.reduceAdd, Nat.reduceSub, Nat.reduceMul, Nat.reduceLT, Nat.reduceEqDiff, Nat.reduceLeDiff, Nat.reduceBEq, Int.reduceLE, Int.reduceEq, Int.reduceNe, Int.reduceLT, Int.reduceToNat, reduceCtorEq, Try.f4]
  refine TCall_pure (f15_ok u) (by simp -implicitDefEqProofs (maxSteps := 4000000) only [go_sem, Nat.reduceAdd, Nat.reduceSub, Nat.reduceMul, Nat.reduceLT, Nat.reduceEqDiff, Nat.reduceLeDiff, Nat.reduceBEq, Int.reduceLE, Int.reduceEq, Int.reduceNe, Int.reduceLT, Int.reduceToNat, reduceCtorEq]) ?_
  simp -implicitDefEqProofs (maxSteps := 4000000) only [go_sem, Nat.reduceAdd, Nat.reduceSub, Nat.reduceMul, Nat.reduceLT, Nat.reduceEqDiff, Nat.reduceLeDiff, Nat.reduceBEq, Int.reduceLE, Int.reduceEq, Int.reduceNe, Int.reduceLT, Int.reduceToNat, reduceCtorEq]
  refine TCall_pure (f16_ok u) (by simp -implicitDefEqProofs (maxSteps := 4000000) only [go_sem, Nat.reduceAdd, Nat.reduceSub, Nat.reduceMul, Nat.reduceLT, Nat.reduceEqDiff, Nat.reduceLeDiff, Nat.reduceBEq, Int.reduceLE, Int.reduceEq, Int.reduceNe, Int.reduceLT, Int.reduceToNat, reduceCtorEq]) ?_
  simp -implicitDefEqProofs (maxSteps := 4000000) only [go_sem, Nat.reduceAdd, Nat.reduceSub, Nat.reduceMul, Nat.reduceLT, Nat.reduceEqDiff, Nat.reduceLeDiff, Nat.reduceBEq, Int.reduceLE, Int.reduceEq, Int.reduceNe, Int.reduceLT, Int.reduceToNat, reduceCtorEq, bne_self_eq_false]
  refine TCall_pure (f17_ok u) (by simp -implicitDefEqProofs (maxSteps := 4000000) only [go_sem, Nat.reduceAdd, Nat.reduceSub, Nat.reduceMul, Nat.reduceLT, Nat.reduceEqDiff, Nat.reduceLeDiff, Nat.reduceBEq, Int.reduceLE, Int.reduceEq, Int.reduceNe, Int.reduceLT, Int.reduceToNat, reduceCtorEq]) ?_
  simp -implicitDefEqProofs (maxSteps := 4000000) only [go_sem, Nat.reduceAdd, Nat.reduceSub, Nat.reduceMul, Nat.reduceLT, Nat.reduceEqDiff, Nat.reduceLeDiff, Nat.reduceBEq, Int.reduceLE, Int.reduceEq, Int.reduceNe, Int.reduceLT, Int.reduceToNat, reduceCtorEq]
  refine TCall_pure (f18_ok u) (by simp -implicitDefEqProofs (maxSteps := 4000000) only [go_sem, Nat.reduceAdd, Nat.reduceSub, Nat.reduceMul, Nat.reduceLT, Nat.reduceEqDiff, Nat.reduceLeDiff, Nat.reduceBEq, Int.reduceLE, Int.reduceEq, Int.reduceNe, Int.reduceLT, Int.reduceToNat, reduceCtorEq]) ?_
  simp -implicitDefEqProofs (maxSteps := 4000000) only [go_sem, Nat.reduceAdd, Nat.reduceSub, Nat.reduceMul, Nat.reduceLT, Nat.reduceEqDiff, Nat.reduceLeDiff, Nat.reduceBEq, Int.reduceLE, Int.reduceEq, Int.reduceNe, Int.reduceLT, Int.reduceToNat, reduceCtorEq, bne_self_eq_false]
  have fin : ∀ {s : Sa} {k : V → Sa → Prop}, k (.d (.b true)) s → TCall Try.prog [33] 22 [] s k := fun hk => TCall_pure (p := [33]) f22_ok rfl (by simp -implicitDefEqProofs (maxSteps := 4000000) only [go_sem, Nat.reduceAdd, Nat.reduceSub, Nat.reduceMul, Nat.reduceLT, Nat.reduceEqDiff, Nat.reduceLeDiff, Nat.reduceBEq, Int.reduceLE, Int.reduceEq, Int.reduceNe, Int.reduceLT, Int.reduceToNat, reduceCtorEq]; exact hk)
  refine ⟨fun h1 => ?_, fun h1 => ⟨fun h2 => ?_, fun h2 => ?_⟩⟩
  · apply fin
    simp -implicitDefEqProofs (maxSteps := 4000000) only [go_sem, Nat.reduceAdd, Nat.reduceSub, Nat.reduceMul, Nat.reduceLT, Nat.reduceEqDiff, Nat.reduceLeDiff, Nat.reduceBEq, Int.reduceLE, Int.reduceEq, Int.reduceNe, Int.reduceLT, Int.reduceToNat, reduceCtorEq]
  · apply fin
    simp -implicitDefEqProofs (maxSteps := 4000000) only [go_sem, Nat.reduceAdd, Nat.reduceSub, Nat.reduceMul, Nat.reduceLT, Nat.reduceEqDiff, Nat.reduceLeDiff, Nat.reduceBEq, Int.reduceLE, Int.reduceEq, Int.reduceNe, Int.reduceLT, Int.reduceToNat, reduceCtorEq]
  · simp only [decide_eq_false_iff_not] at h1 h2
    refine TCall_pure (f20_ok u m (by omega)) (by simp -implicitDefEqProofs (maxSteps := 4000000) only [go_sem, Nat.reduceAdd, Nat.reduceSub, Nat.reduceMul, Nat.reduceLT, Nat.reduceEqDiff, Nat.reduceLeDiff, Nat.reduceBEq, Int.reduceLE, Int.reduceEq, Int.reduceNe, Int.reduceLT, Int.reduceToNat, reduceCtorEq]) ?_
    simp -implicitDefEqProofs (maxSteps := 4000000) only [go_sem, Nat.reduceAdd, Nat.reduceSub, Nat.reduceMul, Nat.reduceLT, Nat.reduceEqDiff, Nat.reduceLeDiff, Nat.reduceBEq, Int.reduceLE, Int.reduceEq, Int.reduceNe, Int.reduceLT, Int.reduceToNat, reduceCtorEq]
    refine TCall_pure (f21_ok u m) (by simp -implicitDefEqProofs (maxSteps := 4000000) only [go_sem, Nat.reduceAdd, Nat.reduceSub, Nat.reduceMul, Nat.reduceLT, Nat.reduceEqDiff, Nat.reduceLeDiff, Nat.reduceBEq, Int.reduceLE, Int.reduceEq, Int.reduceNe, Int.reduceLT, Int.reduceToNat, reduceCtorEq]) ?_
    simp -implicitDefEqProofs (maxSteps := 4000000) only [go_sem, Nat.reduceAdd, Nat.reduceSub, Nat.reduceMul, Nat.reduceLT, Nat.reduceEqDiff, Nat.reduceLeDiff, Nat.reduceBEq, Int.reduceLE, Int.reduceEq, Int.reduceNe, Int.reduceLT, Int.reduceToNat, reduceCtorEq]
    refine TCall_pure (f19_ok (lab u m) (lab u m)) (by simp -implicitDefEqProofs (maxSteps := 4000000) only [go_sem, Nat.reduceAdd, Nat.reduceSub, Nat.reduceMul, Nat.reduceLT, Nat.reduceEqDiff, Nat.reduceLeDiff, Nat.reduceBEq, Int.reduceLE, Int.reduceEq, Int.reduceNe, Int.reduceLT, Int.reduceToNat, reduceCtorEq]) ?_
    simp -implicitDefEqProofs (maxSteps := 4000000) only [go_sem, Nat.reduceAdd, Nat.reduceSub, Nat.reduceMul, Nat.reduceLT, Nat.reduceEqDiff, Nat.reduceLeDiff, Nat.reduceBEq, Int.reduceLE, Int.reduceEq, Int.reduceNe, Int.reduceLT, Int.reduceToNat, reduceCtorEq, same_self]
    apply fin
    simp -implicitDefEqProofs (maxSteps := 4000000) only [go_sem, Nat.reduceAdd, Nat.reduceSub, Nat.reduceMul, Nat.reduceLT, Nat.reduceEqDiff, Nat.reduceLeDiff, Nat.reduceBEq, Int.reduceLE, Int.reduceEq, Int.reduceNe, Int.reduceLT, Int.reduceToNat, reduceCtorEq]
end Go.Proofs.Ytijkiddfobojaaa
