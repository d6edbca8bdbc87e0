import Derived.Test.YtijkiddfobojaaaW2
namespace Go.Proofs.Ytijkiddfobojaaa
set_option linter.all false
set_option linter.unusedSimpArgs false
set_option linter.unusedVariables false
set_option maxRecDepth 20000
set_option maxHeartbeats 2000000
open Go Go.Ab Go.Proofs
theorem f100_ex (a b : List XPair) : Som (fun r : Bool => r = true ↔ a = b) (fun r => PureOK Try.prog 100 [encL XPair.enc a, encL XPair.enc b] [.b r]) := by
  refine Som.body [] Try.func100 (by rfl) (by simp [Try.f100]) (fun hwf => ?_) (fun _ => ex_iff _)
  simp -implicitDefEqProofs (maxSteps := 4000000) only [go_sem, Nat.reduceAdd, Nat.reduceSub, Nat.reduceMul, Nat.reduceLT, Nat.reduceEqDiff, Nat.reduceLeDiff, Nat.reduceBEq, Int.reduceLE, Int.reduceEq, Int.reduceNe, Int.reduceLT, Int.reduceToNat, reduceCtorEq, Try.f100]
  refine Som.call (f129_ex a b) (by simp -implicitDefEqProofs (maxSteps := 4000000) only [go_sem, Nat.reduceAdd, Nat.reduceSub, Nat.reduceMul, Nat.reduceLT, Nat.reduceEqDiff, Nat.reduceLeDiff, Nat.reduceBEq, Int.reduceLE, Int.reduceEq, Int.reduceNe, Int.reduceLT, Int.reduceToNat, reduceCtorEq]) (fun r hr => ?_)
  simp -implicitDefEqProofs (maxSteps := 4000000) only [go_sem, Nat.reduceAdd, Nat.reduceSub, Nat.reduceMul, Nat.reduceLT, Nat.reduceEqDiff, Nat.reduceLeDiff, Nat.reduceBEq, Int.reduceLE, Int.reduceEq, Int.reduceNe, Int.reduceLT, Int.reduceToNat, reduceCtorEq]
  exact Som.done r hr rfl
theorem f102_ex (a b : List XPagesReach) : Som (fun r : Bool => r = true ↔ a = b) (fun r => PureOK Try.prog 102 [encL XPagesReach.enc a, encL XPagesReach.enc b] [.b r]) := by
  refine Som.body [] Try.func102 (by rfl) (by simp [Try.f102]) (fun hwf => ?_) (fun _ => ex_iff _)
  simp -implicitDefEqProofs (maxSteps := 4000000) only [go_sem, Nat.reduceAdd, Nat.reduceSub, Nat.reduceMul, Nat.reduceLT, Nat.reduceEqDiff, Nat.reduceLeDiff, Nat.reduceBEq, Int.reduceLE, Int.reduceEq, Int.reduceNe, Int.reduceLT, Int.reduceToNat, reduceCtorEq, Try.f102]
  refine Som.call (f130_ex a b) (by simp -implicitDefEqProofs (maxSteps := 4000000) only [go_sem, Nat.reduceAdd, Nat.reduceSub, Nat.reduceMul, Nat.reduceLT, Nat.reduceEqDiff, Nat.reduceLeDiff, Nat.reduceBEq, Int.reduceLE, Int.reduceEq, Int.reduceNe, Int.reduceLT, Int.reduceToNat, reduceCtorEq]) (fun r hr => ?_)
  simp -implicitDefEqProofs (maxSteps := 4000000) only [go_sem, Nat.reduceAdd, Nat.reduceSub, Nat.reduceMul, Nat.reduceLT, Nat.reduceEqDiff, Nat.reduceLeDiff, Nat.reduceBEq, Int.reduceLE, Int.reduceEq, Int.reduceNe, Int.reduceLT, Int.reduceToNat, reduceCtorEq]
  exact Som.done r hr rfl
theorem XRef.ext' {a b : XRef} (h1 : a.cont = b.cont) (h2 : a.id = b.id) : a = b := by cases a; cases b; simp_all
theorem XGate.ext' {a b : XGate} (h1 : a.grant = b.grant) (h2 : a.clear = b.clear) (h3 : a.space = b.space) (h4 : a.pc = b.pc) (h5 : a.arg = b.arg) : a = b := by cases a; cases b; simp_all
theorem XRef.eqb {x y : XRef} : (x.cont == y.cont && x.id == y.id) = true ↔ x = y := by cases x; cases y; simp
theorem f104_ex (a b : XGate) : Som (fun r : Bool => r = true ↔ a = b) (fun r => PureOK Try.prog 104 [XGate.enc a, XGate.enc b] [.b r]) := by
  refine Som.body [] Try.func104 (by rfl) (by simp [Try.f104]) (fun hwf => ?_) (fun _ => ex_iff _)
  simp -implicitDefEqProofs (maxSteps := 4000000) only [go_sem, Nat.reduceAdd, Nat.reduceSub, Nat.reduceMul, Nat.reduceLT, Nat.reduceEqDiff, Nat.reduceLeDiff, Nat.reduceBEq, Int.reduceLE, Int.reduceEq, Int.reduceNe, Int.reduceLT, Int.reduceToNat, reduceCtorEq, Try.f104, XRef.agg]
  (repeat' first
      | (refine Som.case (fun h => ?_) (fun h => ?_) <;> (try simp only [decide_eq_true_eq, decide_eq_false_iff_not, beq_iff_eq, beq_eq_false_iff_ne, bne_iff_ne, bne_eq_false_iff_eq, Bool.not_eq_true', Bool.not_eq_false', Bool.false_eq_true, Bool.true_eq_false, reduceCtorEq, ne_eq, Int.not_lt, Int.not_le, Int.ofNat_inj] at h))
      | (refine Som.got (by assumption) ?_)
      | (refine Som.getw (by assumption) (by omega) (fun x hx hxw => ?_))
      | (refine Som.get (by omega) (fun x hx => ?_))
      | (refine Som.and (by first | omega | trivial | assumption | (simp; done) | (simp; omega)) ?_)
      | (refine Som.done _ ?_ (by first | rfl | trivial | assumption); (first | trivial | assumption | (intro hh; cases hh; done) | (exact fun hh => ⟨hr hh, by omega⟩) | (exact fun _ => ⟨(‹_ = true → FitL _ ∧ _› (by assumption)).1, by omega, by omega⟩) | exact XObject.wfz | exact WfO.wf (by assumption) | exact ⟨XObject.wfz, .inr rfl⟩ | exact ⟨WfO.wf (by assumption), .inl (List.mem_of_getElem? (by assumption))⟩ | (simp; done)))
      | (refine Som.call (f100_ex _ _) (by first | rfl | (simp only [go_sem, Nat.reduceAdd, Nat.reduceSub, Nat.reduceMul, Nat.reduceLT, Nat.reduceEqDiff, Nat.reduceLeDiff, Nat.reduceBEq, Int.reduceLE, Int.reduceEq, Int.reduceNe, Int.reduceLT, Int.reduceToNat, reduceCtorEq]; done)) (fun r hr => ?_); try simp -implicitDefEqProofs (maxSteps := 4000000) only [go_sem, Nat.reduceAdd, Nat.reduceSub, Nat.reduceMul, Nat.reduceLT, Nat.reduceEqDiff, Nat.reduceLeDiff, Nat.reduceBEq, Int.reduceLE, Int.reduceEq, Int.reduceNe, Int.reduceLT, Int.reduceToNat, reduceCtorEq, XRef.agg])
      | (refine Som.pcall (f100_ex _ _) (by first | rfl | (simp only [go_sem, Nat.reduceAdd, Nat.reduceSub, Nat.reduceMul, Nat.reduceLT, Nat.reduceEqDiff, Nat.reduceLeDiff, Nat.reduceBEq, Int.reduceLE, Int.reduceEq, Int.reduceNe, Int.reduceLT, Int.reduceToNat, reduceCtorEq]; done)) (fun r hr => ?_); try simp -implicitDefEqProofs (maxSteps := 4000000) only [go_sem, Nat.reduceAdd, Nat.reduceSub, Nat.reduceMul, Nat.reduceLT, Nat.reduceEqDiff, Nat.reduceLeDiff, Nat.reduceBEq, Int.reduceLE, Int.reduceEq, Int.reduceNe, Int.reduceLT, Int.reduceToNat, reduceCtorEq, XRef.agg])
      | (simp -implicitDefEqProofs (maxSteps := 4000000) only [go_sem, Nat.reduceAdd, Nat.reduceSub, Nat.reduceMul, Nat.reduceLT, Nat.reduceEqDiff, Nat.reduceLeDiff, Nat.reduceBEq, Int.reduceLE, Int.reduceEq, Int.reduceNe, Int.reduceLT, Int.reduceToNat, reduceCtorEq, XRef.agg]))
  all_goals first
    | (refine Som.done false (iff_f fun e => ?_) rfl; subst e; simp_all; done)
    | (refine Som.done _ ⟨fun e => XGate.ext' (by simp_all) (by simp_all) (XRef.eqb.1 (by assumption)) (by assumption) (by simpa using e), fun e => ?_⟩ rfl; subst e; simp_all; done)
theorem regs_eqb {a b : Fin 16 → Int} : (a 0 == b 0 && (a 1 == b 1 && (a 2 == b 2 && (a 3 == b 3 && (a 4 == b 4 && (a 5 == b 5 && (a 6 == b 6 && (a 7 == b 7 && (a 8 == b 8 && (a 9 == b 9 && (a 10 == b 10 && (a 11 == b 11 && (a 12 == b 12 && (a 13 == b 13 && (a 14 == b 14 && a 15 == b 15))))))))))))))) = true ↔ a = b := by
  constructor
  · intro h
    simp only [Bool.and_eq_true, beq_iff_eq] at h
    obtain ⟨h0, h1, h2, h3, h4, h5, h6, h7, h8, h9, h10, h11, h12, h13, h14, h15⟩ := h
    funext i
    rcases i with ⟨i, hi⟩
    match i, hi with
    | 0, _ => exact h0
    | 1, _ => exact h1
    | 2, _ => exact h2
    | 3, _ => exact h3
    | 4, _ => exact h4
    | 5, _ => exact h5
    | 6, _ => exact h6
    | 7, _ => exact h7
    | 8, _ => exact h8
    | 9, _ => exact h9
    | 10, _ => exact h10
    | 11, _ => exact h11
    | 12, _ => exact h12
    | 13, _ => exact h13
    | 14, _ => exact h14
    | 15, _ => exact h15
    | n + 16, hn => exact absurd hn (by omega)
  · intro h; subst h; simp
theorem labs_ext {a b : Fin 4 → List XPair} (h0 : a 0 = b 0) (h1 : a 1 = b 1) (h2 : a 2 = b 2) (h3 : a 3 = b 3) : a = b := by
  funext i
  match i with
  | 0 => exact h0
  | 1 => exact h1
  | 2 => exact h2
  | 3 => exact h3
theorem XWait.eqb {x y : XWait} : (x.ref.cont == y.ref.cont && (x.ref.id == y.ref.id && (x.index == y.index && (x.val == y.val && x.dev == y.dev)))) = true ↔ x = y := by
  obtain ⟨⟨a, b⟩, c, d, e⟩ := x
  obtain ⟨⟨a', b'⟩, c', d', e'⟩ := y
  simp [and_assoc]
theorem XSpan.eqb {x y : XSpan} : (x.lo == y.lo && x.hi == y.hi) = true ↔ x = y := by cases x; cases y; simp
theorem XThread.ext' {a b : XThread} (h1 : a.regs = b.regs) (h2 : a.pc = b.pc) (h3 : a.clear = b.clear) (h4 : a.space = b.space) (h5 : a.handler = b.handler) (h6 : a.vector = b.vector) (h7 : a.state = b.state) (h8 : a.wait = b.wait) (h9 : a.alerts = b.alerts) (h10 : a.span = b.span) (h11 : a.labs = b.labs) : a = b := by
  cases a; cases b; simp_all
end Go.Proofs.Ytijkiddfobojaaa
