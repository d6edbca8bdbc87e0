import Derived.Test.YtijkiddfobojaaaT4
namespace Go.Proofs.Ytijkiddfobojaaa
set_option linter.all false
set_option linter.unusedSimpArgs false
set_option linter.unusedVariables false
set_option maxRecDepth 20000
set_option maxHeartbeats 2000000
open Go Go.Ab Go.Proofs
def bsFind (l : List XPair) (t : Int) (i j : Nat) : Nat :=
  if _h : i < j then (match l[(i + j) / 2]? with
    | some q => if cmpU q.cat t < 0 then bsFind l t ((i + j) / 2 + 1) j else bsFind l t i ((i + j) / 2)
    | none => i) else i
termination_by j - i
def bsHas (l : List XPair) (t : Int) (k : Nat) : Bool := match l[k]? with | some q => cmpU q.cat t == 0 | none => false
theorem half {i j : Nat} (hi : (i : Int) ≤ 9223372036854775807) (hj : (j : Int) ≤ 9223372036854775807) : IntKind.i64.wrap ((IntKind.u64.wrap (IntKind.i64.wrap ((i : Int) + j))).fdiv (2 ^ (min 1 64))) = ((i + j) / 2 : Nat) := by
  have h1 : IntKind.u64.wrap (IntKind.i64.wrap ((i : Int) + j)) = i + j := by
    simp only [IntKind.wrap, IntKind.bits, IntKind.signed]; simp; omega
  rw [h1, Int.fdiv_eq_ediv_of_nonneg _ (by decide)]
  have h2 : ((2 : Int) ^ (min 1 64)) = 2 := by decide
  rw [h2, wrap_i64] <;> omega

theorem f105_ok (l : List XPair) (t : Int) : PureOK Try.prog 105 [encL XPair.enc l, .u t, .v (.func (.func 106) #[] #[])] [.i (bsFind l t 0 l.length), .b (bsHas l t (bsFind l t 0 l.length))] := by
  refine PureOK.of_body' [] Try.func105 (by rfl) (by simp [Try.f105]) (fun hwf => ?_)
  simp -implicitDefEqProofs (maxSteps := 4000000) only [go_sem, Nat.reduceAdd, Nat.reduceSub, Nat.reduceMul, Nat.reduceLT, Nat.reduceEqDiff, Nat.reduceLeDiff, Nat.reduceBEq, Int.reduceLE, Int.reduceEq, Int.reduceNe, Int.reduceLT, Int.reduceToNat, reduceCtorEq, Try.f105]
  simp only [D.wfL, wf_encL, wf_i, wf_u, wf_b, and_true, true_and] at hwf
  refine TC_while (fun k : { k : Nat × Nat // k.1 ≤ k.2 ∧ k.2 ≤ l.length ∧ bsFind l t 0 l.length = bsFind l t k.1 k.2 } => { rd := none, n := 49, ts := [(0, .d (encL XPair.enc l)), (1, .d (.u t)), (2, .d (.v (.func (.func 106) #[] #[]))), (8, .d (.i l.length)), (9, .d (.i k.1.1)), (10, .d (.i k.1.2))], sv := [], bx := [], lp := [], ow := [] }) (fun k => k.1.2 - k.1.1) ⟨(0, l.length), by simp⟩ ?_ ?_
  · exact Wk.lists rfl rfl rfl (by simp [lkT]) rfl (by simp [lookN]) (by simp)
  · rintro ⟨⟨i, j⟩, hij, hj, hs⟩
    simp only at hij hj hs
    simp -implicitDefEqProofs (maxSteps := 4000000) only [go_sem, Nat.reduceAdd, Nat.reduceSub, Nat.reduceMul, Nat.reduceLT, Nat.reduceEqDiff, Nat.reduceLeDiff, Nat.reduceBEq, Int.reduceLE, Int.reduceEq, Int.reduceNe, Int.reduceLT, Int.reduceToNat, reduceCtorEq]
    have hw := half (i := i) (j := j) (by omega) (by omega)
    refine ⟨fun hlt => ?_, fun hge => ?_⟩
    · simp only [decide_eq_true_eq] at hlt
      simp only [hw, Int.toNat_natCast]
      refine ⟨by omega, by omega, fun q hq => ?_⟩
      refine TCall_pure (f106_ok q t) (by simp -implicitDefEqProofs (maxSteps := 4000000) only [go_sem, Nat.reduceAdd, Nat.reduceSub, Nat.reduceMul, Nat.reduceLT, Nat.reduceEqDiff, Nat.reduceLeDiff, Nat.reduceBEq, Int.reduceLE, Int.reduceEq, Int.reduceNe, Int.reduceLT, Int.reduceToNat, reduceCtorEq]) ?_
      simp -implicitDefEqProofs (maxSteps := 4000000) only [go_sem, Nat.reduceAdd, Nat.reduceSub, Nat.reduceMul, Nat.reduceLT, Nat.reduceEqDiff, Nat.reduceLeDiff, Nat.reduceBEq, Int.reduceLE, Int.reduceEq, Int.reduceNe, Int.reduceLT, Int.reduceToNat, reduceCtorEq]
      refine ⟨fun hc => ?_, fun hc => ?_⟩ <;> simp only [decide_eq_true_eq, decide_eq_false_iff_not] at hc
      · have hs' : bsFind l t 0 l.length = bsFind l t ((i + j) / 2 + 1) j := by
          rw [hs]; conv => lhs; unfold bsFind
          rw [dif_pos (by omega), hq]; simp only; rw [if_pos hc]
        refine ⟨⟨((i + j) / 2 + 1, j), by simp only; omega, by simp only; omega, hs'⟩, ?_, ?_⟩
        · have := wrap_i64 (x := ((i : Int) + j) / 2 + 1) (by omega) (by omega)
          exact Wk.lists rfl rfl rfl (by simp [lkT, this]) rfl (by simp [lookN]) (by simp)
        · show j - ((i + j) / 2 + 1) < j - i; omega
      · have hs' : bsFind l t 0 l.length = bsFind l t i ((i + j) / 2) := by
          rw [hs]; conv => lhs; unfold bsFind
          rw [dif_pos (by omega), hq]; simp only; rw [if_neg hc]
        refine ⟨⟨(i, (i + j) / 2), by simp only; omega, by simp only; omega, hs'⟩, ?_, ?_⟩
        · exact Wk.lists rfl rfl rfl (by simp [lkT]) rfl (by simp [lookN]) (by simp)
        · show (i + j) / 2 - i < j - i; omega
    · simp only [decide_eq_false_iff_not] at hge
      have hs' : bsFind l t 0 l.length = i := by rw [hs]; unfold bsFind; rw [dif_neg (by omega)]
      rw [hs']
      refine ⟨fun hlt => ⟨by simpa using hlt, fun q hq => ?_⟩, fun hlt => ?_⟩
      · refine TCall_pure (f106_ok q t) (by simp -implicitDefEqProofs (maxSteps := 4000000) only [go_sem, Nat.reduceAdd, Nat.reduceSub, Nat.reduceMul, Nat.reduceLT, Nat.reduceEqDiff, Nat.reduceLeDiff, Nat.reduceBEq, Int.reduceLE, Int.reduceEq, Int.reduceNe, Int.reduceLT, Int.reduceToNat, reduceCtorEq]) ?_
        simp -implicitDefEqProofs (maxSteps := 4000000) only [go_sem, Nat.reduceAdd, Nat.reduceSub, Nat.reduceMul, Nat.reduceLT, Nat.reduceEqDiff, Nat.reduceLeDiff, Nat.reduceBEq, Int.reduceLE, Int.reduceEq, Int.reduceNe, Int.reduceLT, Int.reduceToNat, reduceCtorEq]
        simp [bsHas, hq]
      · simp only [decide_eq_false_iff_not] at hlt
        simp [bsHas, List.getElem?_eq_none (show l.length ≤ i by omega)]
end Go.Proofs.Ytijkiddfobojaaa
