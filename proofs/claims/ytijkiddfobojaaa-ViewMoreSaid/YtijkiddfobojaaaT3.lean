import Derived.Test.YtijkiddfobojaaaFacts
namespace Go.Proofs.Ytijkiddfobojaaa
set_option linter.all false
set_option linter.unusedSimpArgs false
set_option linter.unusedVariables false
set_option maxRecDepth 20000
set_option maxHeartbeats 2000000
open Go Go.Ab Go.Proofs
def same : List XPair → List XPair → Bool
  | [], [] => true
  | x :: xs, y :: ys => x.cat == y.cat && x.lev == y.lev && same xs ys
  | _, _ => false
theorem same_len : ∀ {a b : List XPair}, a.length ≠ b.length → same a b = false := by
  intro a
  induction a with
  | nil => intro b h; cases b <;> simp_all [same]
  | cons x a ih => intro b h; cases b <;> simp_all [same]
theorem f41_ok (a b : List XPair) : PureOK Try.prog 41 [encL XPair.enc a, encL XPair.enc b] [.b (same a b)] := by
  refine PureOK.of_body' [] Try.func41 (by rfl) (by simp [Try.f41]) (fun hwf => ?_)
  simp -implicitDefEqProofs (maxSteps := 4000000) only [go_sem, Nat.reduceAdd, Nat.reduceSub, Nat.reduceMul, Nat.reduceLT, Nat.reduceEqDiff, Nat.reduceLeDiff, Nat.reduceBEq, Int.reduceLE, Int.reduceEq, Int.reduceNe, Int.reduceLT, Int.reduceToNat, reduceCtorEq, Try.f41]
  simp only [D.wfL, wf_encL, wf_i, wf_u, wf_b, and_true, true_and] at hwf
  refine ⟨fun hne => ?_, fun heq => ?_⟩
  · simp only [bne_iff_ne, ne_eq, Int.ofNat_inj] at hne; rw [same_len hne]
  simp only [bne_eq_false_iff_eq, Int.ofNat_inj] at heq
  refine TC_while (fun k : { k : Nat // k ≤ a.length ∧ same a b = same (a.drop k) (b.drop k) } => { rd := none, n := 26, ts := [(0, .d (encL XPair.enc a)), (1, .d (encL XPair.enc b)), (4, .d (.b false)), (5, .d (.i k.1))], sv := [], bx := [], lp := [], ow := [] }) (fun k => a.length - k.1) ⟨0, by simp⟩ ?_ ?_
  · exact Wk.lists rfl rfl rfl (by simp [lkT]) rfl (by simp [lookN]) (by simp)
  · intro ⟨k, hk, hs⟩
    simp -implicitDefEqProofs (maxSteps := 4000000) only [go_sem, Nat.reduceAdd, Nat.reduceSub, Nat.reduceMul, Nat.reduceLT, Nat.reduceEqDiff, Nat.reduceLeDiff, Nat.reduceBEq, Int.reduceLE, Int.reduceEq, Int.reduceNe, Int.reduceLT, Int.reduceToNat, reduceCtorEq]
    refine ⟨fun hlt => ?_, fun hge => ?_⟩
    · refine TC_draw [.calm [0, 1, 2, 3, 4, 5, 6, 7, 8]] mixed (by kernel_rfl) ?_
      simp only [decide_eq_true_eq] at hlt
      simp -implicitDefEqProofs (maxSteps := 4000000) only [go_sem, Nat.reduceAdd, Nat.reduceSub, Nat.reduceMul, Nat.reduceLT, Nat.reduceEqDiff, Nat.reduceLeDiff, Nat.reduceBEq, Int.reduceLE, Int.reduceEq, Int.reduceNe, Int.reduceLT, Int.reduceToNat, reduceCtorEq, XPair.agg, takeD]
      refine ⟨hlt, fun x hx => ⟨by rw [← heq]; exact hlt, fun y hy => ⟨fun hne => ?_, fun heq2 => ?_⟩⟩⟩
      · rw [hs, drop_get hx, drop_get hy]
        have : ¬ (x.cat = y.cat ∧ x.lev = y.lev) := by rintro ⟨h1, h2⟩; rw [h1, h2] at hne; simp at hne
        simp only [same]
        by_cases h1 : x.cat = y.cat
        · simp [show x.lev ≠ y.lev from fun h2 => this ⟨h1, h2⟩]
        · simp [h1]
      · have h2 : x.cat = y.cat ∧ x.lev = y.lev := by simpa using heq2
        have h1 : same a b = same (a.drop (k + 1)) (b.drop (k + 1)) := by
          rw [hs, drop_get hx, drop_get hy]
          simp [same, h2.1, h2.2]
        refine ⟨⟨k + 1, by omega, h1⟩, ?_, ?_⟩
        · have := wrap_i64 (x := (k : Int) + 1) (by omega) (by omega)
          exact Wk.lists rfl rfl rfl (by simp [lkT, this]) rfl (by simp [lookN]) (by simp)
        · show a.length - (k + 1) < a.length - k; omega
    · simp only [decide_eq_false_iff_not] at hge
      rw [hs, List.drop_eq_nil_of_le (by omega), List.drop_eq_nil_of_le (by omega)]; rfl
end Go.Proofs.Ytijkiddfobojaaa
