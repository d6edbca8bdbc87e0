import Derived.Test.YtijkiddfobojaaaT8
import Derived.Test.YtijkiddfobojaaaAbS
namespace Go.Proofs.Ytijkiddfobojaaa
set_option linter.all false
set_option linter.unusedSimpArgs false
set_option linter.unusedVariables false
set_option maxRecDepth 20000
set_option maxHeartbeats 2000000
open Go Go.Ab Go.Proofs
theorem f96_ok (n : Int) : PureOK Try.prog 96 [.i n] [.i (ofL n)] := by
  refine PureOK.of_body' [] Try.func96 (by rfl) (by simp [Try.f96]) (fun hwf => ?_)
  simp -implicitDefEqProofs (maxSteps := 4000000) only [go_sem, Nat.reduceAdd, Nat.reduceSub, Nat.reduceMul, Nat.reduceLT, Nat.reduceEqDiff, Nat.reduceLeDiff, Nat.reduceBEq, Int.reduceLE, Int.reduceEq, Int.reduceNe, Int.reduceLT, Int.reduceToNat, reduceCtorEq, Try.f96]
  refine TCall_pure (f72_ok n) (by simp -implicitDefEqProofs (maxSteps := 4000000) only [go_sem, Nat.reduceAdd, Nat.reduceSub, Nat.reduceMul, Nat.reduceLT, Nat.reduceEqDiff, Nat.reduceLeDiff, Nat.reduceBEq, Int.reduceLE, Int.reduceEq, Int.reduceNe, Int.reduceLT, Int.reduceToNat, reduceCtorEq]) ?_
  simp -implicitDefEqProofs (maxSteps := 4000000) only [go_sem, Nat.reduceAdd, Nat.reduceSub, Nat.reduceMul, Nat.reduceLT, Nat.reduceEqDiff, Nat.reduceLeDiff, Nat.reduceBEq, Int.reduceLE, Int.reduceEq, Int.reduceNe, Int.reduceLT, Int.reduceToNat, reduceCtorEq]
  refine ⟨fun h => ?_, fun h => ?_⟩ <;> simp at h <;> simp [ofL] <;> omega
theorem f68_ok (a b : Int) : PureOK Try.prog 68 [.i a, .i b] [.b (decide (ofL a ≤ ofL b))] := by
  refine PureOK.of_body' [] Try.func68 (by rfl) (by simp [Try.f68]) (fun hwf => ?_)
  simp -implicitDefEqProofs (maxSteps := 4000000) only [go_sem, Nat.reduceAdd, Nat.reduceSub, Nat.reduceMul, Nat.reduceLT, Nat.reduceEqDiff, Nat.reduceLeDiff, Nat.reduceBEq, Int.reduceLE, Int.reduceEq, Int.reduceNe, Int.reduceLT, Int.reduceToNat, reduceCtorEq, Try.f68]
  refine TCall_pure (f96_ok a) (by simp -implicitDefEqProofs (maxSteps := 4000000) only [go_sem, Nat.reduceAdd, Nat.reduceSub, Nat.reduceMul, Nat.reduceLT, Nat.reduceEqDiff, Nat.reduceLeDiff, Nat.reduceBEq, Int.reduceLE, Int.reduceEq, Int.reduceNe, Int.reduceLT, Int.reduceToNat, reduceCtorEq]) ?_
  simp -implicitDefEqProofs (maxSteps := 4000000) only [go_sem, Nat.reduceAdd, Nat.reduceSub, Nat.reduceMul, Nat.reduceLT, Nat.reduceEqDiff, Nat.reduceLeDiff, Nat.reduceBEq, Int.reduceLE, Int.reduceEq, Int.reduceNe, Int.reduceLT, Int.reduceToNat, reduceCtorEq]
  refine TCall_pure (f96_ok b) (by simp -implicitDefEqProofs (maxSteps := 4000000) only [go_sem, Nat.reduceAdd, Nat.reduceSub, Nat.reduceMul, Nat.reduceLT, Nat.reduceEqDiff, Nat.reduceLeDiff, Nat.reduceBEq, Int.reduceLE, Int.reduceEq, Int.reduceNe, Int.reduceLT, Int.reduceToNat, reduceCtorEq]) ?_
  simp -implicitDefEqProofs (maxSteps := 4000000) only [go_sem, Nat.reduceAdd, Nat.reduceSub, Nat.reduceMul, Nat.reduceLT, Nat.reduceEqDiff, Nat.reduceLeDiff, Nat.reduceBEq, Int.reduceLE, Int.reduceEq, Int.reduceNe, Int.reduceLT, Int.reduceToNat, reduceCtorEq]
theorem f99_ok (n : Int) : PureOK Try.prog 99 [.i n] [.i (raiseL n)] := by
  refine PureOK.of_body' [] Try.func99 (by rfl) (by simp [Try.f99]) (fun hwf => ?_)
  simp -implicitDefEqProofs (maxSteps := 4000000) only [go_sem, Nat.reduceAdd, Nat.reduceSub, Nat.reduceMul, Nat.reduceLT, Nat.reduceEqDiff, Nat.reduceLeDiff, Nat.reduceBEq, Int.reduceLE, Int.reduceEq, Int.reduceNe, Int.reduceLT, Int.reduceToNat, reduceCtorEq, Try.f99]
  refine TCall_pure (f96_ok n) (by simp -implicitDefEqProofs (maxSteps := 4000000) only [go_sem, Nat.reduceAdd, Nat.reduceSub, Nat.reduceMul, Nat.reduceLT, Nat.reduceEqDiff, Nat.reduceLeDiff, Nat.reduceBEq, Int.reduceLE, Int.reduceEq, Int.reduceNe, Int.reduceLT, Int.reduceToNat, reduceCtorEq]) ?_
  simp -implicitDefEqProofs (maxSteps := 4000000) only [go_sem, Nat.reduceAdd, Nat.reduceSub, Nat.reduceMul, Nat.reduceLT, Nat.reduceEqDiff, Nat.reduceLeDiff, Nat.reduceBEq, Int.reduceLE, Int.reduceEq, Int.reduceNe, Int.reduceLT, Int.reduceToNat, reduceCtorEq]
  refine ⟨fun h => ?_, fun h => ?_⟩ <;> simp at h <;> simp [raiseL, h]
theorem f98_ok (a b : Int) : PureOK Try.prog 98 [.i a, .i b] [.i (raiseL a)] := by
  refine PureOK.of_body' [] Try.func98 (by rfl) (by simp [Try.f98]) (fun hwf => ?_)
  simp -implicitDefEqProofs (maxSteps := 4000000) only [go_sem, Nat.reduceAdd, Nat.reduceSub, Nat.reduceMul, Nat.reduceLT, Nat.reduceEqDiff, Nat.reduceLeDiff, Nat.reduceBEq, Int.reduceLE, Int.reduceEq, Int.reduceNe, Int.reduceLT, Int.reduceToNat, reduceCtorEq, Try.f98]
  refine TCall_pure (f99_ok a) (by simp -implicitDefEqProofs (maxSteps := 4000000) only [go_sem, Nat.reduceAdd, Nat.reduceSub, Nat.reduceMul, Nat.reduceLT, Nat.reduceEqDiff, Nat.reduceLeDiff, Nat.reduceBEq, Int.reduceLE, Int.reduceEq, Int.reduceNe, Int.reduceLT, Int.reduceToNat, reduceCtorEq]) ?_
  simp -implicitDefEqProofs (maxSteps := 4000000) only [go_sem, Nat.reduceAdd, Nat.reduceSub, Nat.reduceMul, Nat.reduceLT, Nat.reduceEqDiff, Nat.reduceLeDiff, Nat.reduceBEq, Int.reduceLE, Int.reduceEq, Int.reduceNe, Int.reduceLT, Int.reduceToNat, reduceCtorEq]
def leO (p q : Int) : Bool := decide (ofL p ≤ ofL q)
/-- Each category of both, as the program goes through them. -/
def leqM : List XPair → List XPair → Bool
  | [], [] => true
  | x :: a, [] => leO x.lev 2 && leqM a []
  | [], y :: b => leO 2 y.lev && leqM [] b
  | x :: a, y :: b => if x.cat < y.cat then leO x.lev 2 && leqM a (y :: b) else if y.cat < x.cat then leO 2 y.lev && leqM (x :: a) b else leO x.lev y.lev && leqM a b
termination_by a b => a.length + b.length
theorem cons_of_get {α : Type} {l : List α} {x : α} (h : l[0]? = some x) : l = x :: l.drop 1 := by
  have := drop_get h; simpa using this
theorem leqM_nil {a b : List XPair} (ha : a.length = 0) (hb : b.length = 0) : leqM a b = true := by
  rw [List.eq_nil_of_length_eq_zero ha, List.eq_nil_of_length_eq_zero hb]; simp [leqM]
theorem leqM_a {a b : List XPair} {x : XPair} (hx : a[0]? = some x) (hb : b.length = 0) : leqM a b = (leO x.lev 2 && leqM (a.drop 1) b) := by
  have e := cons_of_get hx
  rw [List.eq_nil_of_length_eq_zero hb]
  conv => lhs; rw [e]
  simp [leqM]
theorem leqM_b {a b : List XPair} {y : XPair} (ha : a.length = 0) (hy : b[0]? = some y) : leqM a b = (leO 2 y.lev && leqM a (b.drop 1)) := by
  have e := cons_of_get hy
  rw [List.eq_nil_of_length_eq_zero ha]
  conv => lhs; rw [e]
  simp [leqM]
theorem leqM_lt {a b : List XPair} {x y : XPair} (hx : a[0]? = some x) (hy : b[0]? = some y) (h : x.cat < y.cat) : leqM a b = (leO x.lev 2 && leqM (a.drop 1) b) := by
  have e := cons_of_get hx
  have e2 := cons_of_get hy
  conv => lhs; rw [e, e2]
  rw [leqM, if_pos h, ← e2]
theorem leqM_gt {a b : List XPair} {x y : XPair} (hx : a[0]? = some x) (hy : b[0]? = some y) (h : y.cat < x.cat) : leqM a b = (leO 2 y.lev && leqM a (b.drop 1)) := by
  have e := cons_of_get hx
  have e2 := cons_of_get hy
  conv => lhs; rw [e, e2]
  rw [leqM, if_neg (by omega), if_pos h, ← e]
theorem leqM_eq {a b : List XPair} {x y : XPair} (hx : a[0]? = some x) (hy : b[0]? = some y) (h : x.cat = y.cat) : leqM a b = (leO x.lev y.lev && leqM (a.drop 1) (b.drop 1)) := by
  have e := cons_of_get hx
  have e2 := cons_of_get hy
  conv => lhs; rw [e, e2]
  rw [leqM, if_neg (by omega), if_neg (by omega)]
theorem leO_t {p q : Int} (h : ofL p ≤ ofL q) : leO p q = true := by simp [leO, h]
theorem leO_f {p q : Int} (h : ofL q < ofL p) : leO p q = false := by simp only [leO, decide_eq_false_iff_not]; omega
theorem f38_ok (a b : List XPair) (ha : a.length ≤ 1000000) (hb : b.length ≤ 1000000) : PureOK Try.prog 38 [encL XPair.enc a, encL XPair.enc b] [.b (leqM a b)] := by
  refine PureOK.of_som (out := fun r => [.b r]) ?_
  refine Som.body [] Try.func38 (by rfl) (by simp [Try.f38]) (fun hwf => ?_) (fun _ => ⟨_, rfl⟩)
  simp -implicitDefEqProofs (maxSteps := 4000000) only [go_sem, Nat.reduceAdd, Nat.reduceSub, Nat.reduceMul, Nat.reduceLT, Nat.reduceEqDiff, Nat.reduceLeDiff, Nat.reduceBEq, Int.reduceLE, Int.reduceEq, Int.reduceNe, Int.reduceLT, Int.reduceToNat, reduceCtorEq, Try.f38]
  refine Som.imp (fun r h => TCall_enter [67] Try.func67 (by rfl) (by simp [Try.f67]) h) ?_
  simp -implicitDefEqProofs (maxSteps := 4000000) only [go_sem, Nat.reduceAdd, Nat.reduceSub, Nat.reduceMul, Nat.reduceLT, Nat.reduceEqDiff, Nat.reduceLeDiff, Nat.reduceBEq, Int.reduceLE, Int.reduceEq, Int.reduceNe, Int.reduceLT, Int.reduceToNat, reduceCtorEq, Try.f67]
  refine Som.imp (fun r h => TC_rangeFunc [1000] [95] rfl (by simp [rds]) (by simp [lookN]) (by simp -implicitDefEqProofs (maxSteps := 4000000) only [go_sem, Nat.reduceAdd, Nat.reduceSub, Nat.reduceMul, Nat.reduceLT, Nat.reduceEqDiff, Nat.reduceLeDiff, Nat.reduceBEq, Int.reduceLE, Int.reduceEq, Int.reduceNe, Int.reduceLT, Int.reduceToNat, reduceCtorEq]) (by simp -implicitDefEqProofs (maxSteps := 4000000) only [go_sem, Nat.reduceAdd, Nat.reduceSub, Nat.reduceMul, Nat.reduceLT, Nat.reduceEqDiff, Nat.reduceLeDiff, Nat.reduceBEq, Int.reduceLE, Int.reduceEq, Int.reduceNe, Int.reduceLT, Int.reduceToNat, reduceCtorEq]; rfl) (by simp -implicitDefEqProofs (maxSteps := 4000000) only [go_sem, Nat.reduceAdd, Nat.reduceSub, Nat.reduceMul, Nat.reduceLT, Nat.reduceEqDiff, Nat.reduceLeDiff, Nat.reduceBEq, Int.reduceLE, Int.reduceEq, Int.reduceNe, Int.reduceLT, Int.reduceToNat, reduceCtorEq]) (by kernel_rfl) Try.func95 (by rfl) (by simp [Try.f95]) h) ?_
  simp -implicitDefEqProofs (maxSteps := 4000000) only [go_sem, Nat.reduceAdd, Nat.reduceSub, Nat.reduceMul, Nat.reduceLT, Nat.reduceEqDiff, Nat.reduceLeDiff, Nat.reduceBEq, Int.reduceLE, Int.reduceEq, Int.reduceNe, Int.reduceLT, Int.reduceToNat, reduceCtorEq, Try.f95]
  refine Som.loopL (fun k : List XPair × List XPair => ([(0, .yld [1000]), (1, .ptr [2, 67] 0), (2, .ptr [3, 67] 0)], [([2, 67], .d (encL XPair.enc k.1)), ([3, 67], .d (encL XPair.enc k.2)), ([4], .d (.b false))])) (fun k => k.1.length ≤ 1000000 ∧ k.2.length ≤ 1000000 ∧ leqM a b = leqM k.1 k.2) (fun k => k.1.length + k.2.length) (a, b) ?_ ⟨ha, hb, rfl⟩ ?_
  · (refine Wk.all rfl rfl rfl ?_ rfl ?_ ?_; (repeat (refine AllT.cons (by first | rfl | (simp [lkT]; done) | (simp -implicitDefEqProofs (maxSteps := 4000000) only [go_sem, Nat.reduceAdd, Nat.reduceSub, Nat.reduceMul, Nat.reduceLT, Nat.reduceEqDiff, Nat.reduceLeDiff, Nat.reduceBEq, Int.reduceLE, Int.reduceEq, Int.reduceNe, Int.reduceLT, Int.reduceToNat, reduceCtorEq]; rfl)) ?_)); exact AllT.nil; (repeat (refine AllB.cons (by first | rfl | (simp [lookN]; done) | (simp -implicitDefEqProofs (maxSteps := 4000000) only [go_sem, Nat.reduceAdd, Nat.reduceSub, Nat.reduceMul, Nat.reduceLT, Nat.reduceEqDiff, Nat.reduceLeDiff, Nat.reduceBEq, Int.reduceLE, Int.reduceEq, Int.reduceNe, Int.reduceLT, Int.reduceToNat, reduceCtorEq]; rfl)) ?_)); exact AllB.nil; simp)
  · rintro T ⟨a', b'⟩ ⟨ha', hb', hs⟩ ih
    dsimp only at ha' hb' hs
    have hw := wrap_i64 (x := (a'.length : Int) + b'.length) (by omega) (by omega)
    simp -implicitDefEqProofs (maxSteps := 4000000) only [go_sem, Nat.reduceAdd, Nat.reduceSub, Nat.reduceMul, Nat.reduceLT, Nat.reduceEqDiff, Nat.reduceLeDiff, Nat.reduceBEq, Int.reduceLE, Int.reduceEq, Int.reduceNe, Int.reduceLT, Int.reduceToNat, reduceCtorEq, hw]
    (repeat' first
      | (refine Som.case (fun h => ?_) (fun h => ?_) <;> (try simp only [decide_eq_true_eq, decide_eq_false_iff_not, beq_iff_eq, beq_eq_false_iff_ne, bne_iff_ne, bne_eq_false_iff_eq, Bool.not_eq_true', Bool.not_eq_false', Bool.false_eq_true, Bool.true_eq_false, reduceCtorEq, ne_eq, Int.not_lt, Int.not_le, Int.ofNat_inj] at h))
      | (refine Som.got (by assumption) ?_)
      | (refine Som.getw (by assumption) (by omega) (fun x hx hxw => ?_))
      | (refine Som.get (by omega) (fun x hx => ?_))
      | (refine Som.and (by first | omega | trivial | assumption | (simp; done) | (simp; omega)) ?_)
      | (refine Som.done _ ?_ (by first | rfl | trivial | assumption); (first | trivial | assumption | (intro hh; cases hh; done) | (exact fun hh => ⟨hr hh, by omega⟩) | (exact fun _ => ⟨(‹_ = true → FitL _ ∧ _› (by assumption)).1, by omega, by omega⟩) | exact XObject.wfz | exact WfO.wf (by assumption) | exact ⟨XObject.wfz, .inr rfl⟩ | exact ⟨WfO.wf (by assumption), .inl (List.mem_of_getElem? (by assumption))⟩ | (simp; done)))
      | (refine Som.draw (id := 3) [.calm [0, 1, 2, 3, 4, 5, 6, 7, 8, 9, 10, 11, 12, 13, 14, 15, 16, 17, 18, 19]] mixed (by kernel_rfl) ?_; try simp -implicitDefEqProofs (maxSteps := 4000000) only [go_sem, Nat.reduceAdd, Nat.reduceSub, Nat.reduceMul, Nat.reduceLT, Nat.reduceEqDiff, Nat.reduceLeDiff, Nat.reduceBEq, Int.reduceLE, Int.reduceEq, Int.reduceNe, Int.reduceLT, Int.reduceToNat, reduceCtorEq])
      | (refine Som.draw (id := 4) [.calm [0, 1, 2, 3, 4, 5, 6, 7, 8, 9, 10, 11, 12, 13, 14, 15, 16, 17, 18, 19]] mixed (by kernel_rfl) ?_; try simp -implicitDefEqProofs (maxSteps := 4000000) only [go_sem, Nat.reduceAdd, Nat.reduceSub, Nat.reduceMul, Nat.reduceLT, Nat.reduceEqDiff, Nat.reduceLeDiff, Nat.reduceBEq, Int.reduceLE, Int.reduceEq, Int.reduceNe, Int.reduceLT, Int.reduceToNat, reduceCtorEq])
      | (refine Som.draw (id := 6) [.calm [0, 1, 2, 3, 4, 5, 6, 7, 8, 9], .bar 10] mixed (by kernel_rfl) ?_; try simp -implicitDefEqProofs (maxSteps := 4000000) only [go_sem, Nat.reduceAdd, Nat.reduceSub, Nat.reduceMul, Nat.reduceLT, Nat.reduceEqDiff, Nat.reduceLeDiff, Nat.reduceBEq, Int.reduceLE, Int.reduceEq, Int.reduceNe, Int.reduceLT, Int.reduceToNat, reduceCtorEq])
      | (refine Som.draw (id := 9) [.calm [0, 1, 2, 3, 4, 5, 6, 7, 8, 9], .bar 10] mixed (by kernel_rfl) ?_; try simp -implicitDefEqProofs (maxSteps := 4000000) only [go_sem, Nat.reduceAdd, Nat.reduceSub, Nat.reduceMul, Nat.reduceLT, Nat.reduceEqDiff, Nat.reduceLeDiff, Nat.reduceBEq, Int.reduceLE, Int.reduceEq, Int.reduceNe, Int.reduceLT, Int.reduceToNat, reduceCtorEq])
      | (simp -implicitDefEqProofs (maxSteps := 4000000) only [go_sem, Nat.reduceAdd, Nat.reduceSub, Nat.reduceMul, Nat.reduceLT, Nat.reduceEqDiff, Nat.reduceLeDiff, Nat.reduceBEq, Int.reduceLE, Int.reduceEq, Int.reduceNe, Int.reduceLT, Int.reduceToNat, reduceCtorEq]))
    all_goals first
      | (exfalso; omega)
      | (refine Som.imp (fun r h => TYld_enter [1001] (by rfl) (by rfl) (by simp) (by rfl) h) ?_; simp -implicitDefEqProofs (maxSteps := 4000000) only [go_sem, Nat.reduceAdd, Nat.reduceSub, Nat.reduceMul, Nat.reduceLT, Nat.reduceEqDiff, Nat.reduceLeDiff, Nat.reduceBEq, Int.reduceLE, Int.reduceEq, Int.reduceNe, Int.reduceLT, Int.reduceToNat, reduceCtorEq]; (repeat' first
      | (refine Som.case (fun h => ?_) (fun h => ?_) <;> (try simp only [decide_eq_true_eq, decide_eq_false_iff_not, beq_iff_eq, beq_eq_false_iff_ne, bne_iff_ne, bne_eq_false_iff_eq, Bool.not_eq_true', Bool.not_eq_false', Bool.false_eq_true, Bool.true_eq_false, reduceCtorEq, ne_eq, Int.not_lt, Int.not_le, Int.ofNat_inj] at h))
      | (refine Som.got (by assumption) ?_)
      | (refine Som.getw (by assumption) (by omega) (fun x hx hxw => ?_))
      | (refine Som.get (by omega) (fun x hx => ?_))
      | (refine Som.and (by first | omega | trivial | assumption | (simp; done) | (simp; omega)) ?_)
      | (refine Som.done _ ?_ (by first | rfl | trivial | assumption); (first | trivial | assumption | (intro hh; cases hh; done) | (exact fun hh => ⟨hr hh, by omega⟩) | (exact fun _ => ⟨(‹_ = true → FitL _ ∧ _› (by assumption)).1, by omega, by omega⟩) | exact XObject.wfz | exact WfO.wf (by assumption) | exact ⟨XObject.wfz, .inr rfl⟩ | exact ⟨WfO.wf (by assumption), .inl (List.mem_of_getElem? (by assumption))⟩ | (simp; done)))
      | (refine Som.callx (f68_ok _ _) (by first | rfl | (simp only [go_sem, Nat.reduceAdd, Nat.reduceSub, Nat.reduceMul, Nat.reduceLT, Nat.reduceEqDiff, Nat.reduceLeDiff, Nat.reduceBEq, Int.reduceLE, Int.reduceEq, Int.reduceNe, Int.reduceLT, Int.reduceToNat, reduceCtorEq]; done)) ?_; try simp -implicitDefEqProofs (maxSteps := 4000000) only [go_sem, Nat.reduceAdd, Nat.reduceSub, Nat.reduceMul, Nat.reduceLT, Nat.reduceEqDiff, Nat.reduceLeDiff, Nat.reduceBEq, Int.reduceLE, Int.reduceEq, Int.reduceNe, Int.reduceLT, Int.reduceToNat, reduceCtorEq])
      | (refine Som.pcallx (f68_ok _ _) (by first | rfl | (simp only [go_sem, Nat.reduceAdd, Nat.reduceSub, Nat.reduceMul, Nat.reduceLT, Nat.reduceEqDiff, Nat.reduceLeDiff, Nat.reduceBEq, Int.reduceLE, Int.reduceEq, Int.reduceNe, Int.reduceLT, Int.reduceToNat, reduceCtorEq]; done)) ?_; try simp -implicitDefEqProofs (maxSteps := 4000000) only [go_sem, Nat.reduceAdd, Nat.reduceSub, Nat.reduceMul, Nat.reduceLT, Nat.reduceEqDiff, Nat.reduceLeDiff, Nat.reduceBEq, Int.reduceLE, Int.reduceEq, Int.reduceNe, Int.reduceLT, Int.reduceToNat, reduceCtorEq])
      | (simp -implicitDefEqProofs (maxSteps := 4000000) only [go_sem, Nat.reduceAdd, Nat.reduceSub, Nat.reduceMul, Nat.reduceLT, Nat.reduceEqDiff, Nat.reduceLeDiff, Nat.reduceBEq, Int.reduceLE, Int.reduceEq, Int.reduceNe, Int.reduceLT, Int.reduceToNat, reduceCtorEq])))
      | (refine Som.done true ?_ rfl; rw [hs, leqM_nil (by omega) (by omega)]; done)
      | skip
    all_goals first
      | (refine Som.turn (a'.drop 1, b') ?_ (ih _ ⟨by dsimp only; (try rw [List.length_drop]); omega, by dsimp only; (try rw [List.length_drop]); omega, ?_⟩ ?_); (refine Wk.all rfl rfl rfl ?_ rfl ?_ ?_; (repeat (refine AllT.cons (by first | rfl | (simp [lkT]; done) | (simp -implicitDefEqProofs (maxSteps := 4000000) only [go_sem, Nat.reduceAdd, Nat.reduceSub, Nat.reduceMul, Nat.reduceLT, Nat.reduceEqDiff, Nat.reduceLeDiff, Nat.reduceBEq, Int.reduceLE, Int.reduceEq, Int.reduceNe, Int.reduceLT, Int.reduceToNat, reduceCtorEq]; rfl)) ?_)); exact AllT.nil; (repeat (refine AllB.cons (by first | rfl | (simp [lookN]; done) | (simp -implicitDefEqProofs (maxSteps := 4000000) only [go_sem, Nat.reduceAdd, Nat.reduceSub, Nat.reduceMul, Nat.reduceLT, Nat.reduceEqDiff, Nat.reduceLeDiff, Nat.reduceBEq, Int.reduceLE, Int.reduceEq, Int.reduceNe, Int.reduceLT, Int.reduceToNat, reduceCtorEq]; rfl)) ?_)); exact AllB.nil; simp); (rw [hs, leqM_a (a := a') (b := b') (by assumption) (by omega), leO_t (by assumption), Bool.true_and]); (dsimp only; simp only [List.length_drop]; omega))
      | (refine Som.turn (a', b'.drop 1) ?_ (ih _ ⟨by dsimp only; (try rw [List.length_drop]); omega, by dsimp only; (try rw [List.length_drop]); omega, ?_⟩ ?_); (refine Wk.all rfl rfl rfl ?_ rfl ?_ ?_; (repeat (refine AllT.cons (by first | rfl | (simp [lkT]; done) | (simp -implicitDefEqProofs (maxSteps := 4000000) only [go_sem, Nat.reduceAdd, Nat.reduceSub, Nat.reduceMul, Nat.reduceLT, Nat.reduceEqDiff, Nat.reduceLeDiff, Nat.reduceBEq, Int.reduceLE, Int.reduceEq, Int.reduceNe, Int.reduceLT, Int.reduceToNat, reduceCtorEq]; rfl)) ?_)); exact AllT.nil; (repeat (refine AllB.cons (by first | rfl | (simp [lookN]; done) | (simp -implicitDefEqProofs (maxSteps := 4000000) only [go_sem, Nat.reduceAdd, Nat.reduceSub, Nat.reduceMul, Nat.reduceLT, Nat.reduceEqDiff, Nat.reduceLeDiff, Nat.reduceBEq, Int.reduceLE, Int.reduceEq, Int.reduceNe, Int.reduceLT, Int.reduceToNat, reduceCtorEq]; rfl)) ?_)); exact AllB.nil; simp); (rw [hs, leqM_b (a := a') (b := b') (by omega) (by assumption), leO_t (by assumption), Bool.true_and]); (dsimp only; simp only [List.length_drop]; omega))
      | (refine Som.turn (a'.drop 1, b') ?_ (ih _ ⟨by dsimp only; (try rw [List.length_drop]); omega, by dsimp only; (try rw [List.length_drop]); omega, ?_⟩ ?_); (refine Wk.all rfl rfl rfl ?_ rfl ?_ ?_; (repeat (refine AllT.cons (by first | rfl | (simp [lkT]; done) | (simp -implicitDefEqProofs (maxSteps := 4000000) only [go_sem, Nat.reduceAdd, Nat.reduceSub, Nat.reduceMul, Nat.reduceLT, Nat.reduceEqDiff, Nat.reduceLeDiff, Nat.reduceBEq, Int.reduceLE, Int.reduceEq, Int.reduceNe, Int.reduceLT, Int.reduceToNat, reduceCtorEq]; rfl)) ?_)); exact AllT.nil; (repeat (refine AllB.cons (by first | rfl | (simp [lookN]; done) | (simp -implicitDefEqProofs (maxSteps := 4000000) only [go_sem, Nat.reduceAdd, Nat.reduceSub, Nat.reduceMul, Nat.reduceLT, Nat.reduceEqDiff, Nat.reduceLeDiff, Nat.reduceBEq, Int.reduceLE, Int.reduceEq, Int.reduceNe, Int.reduceLT, Int.reduceToNat, reduceCtorEq]; rfl)) ?_)); exact AllB.nil; simp); (rw [hs, leqM_lt (a := a') (b := b') (by assumption) (by assumption) (by omega), leO_t (by assumption), Bool.true_and]); (dsimp only; simp only [List.length_drop]; omega))
      | (refine Som.turn (a', b'.drop 1) ?_ (ih _ ⟨by dsimp only; (try rw [List.length_drop]); omega, by dsimp only; (try rw [List.length_drop]); omega, ?_⟩ ?_); (refine Wk.all rfl rfl rfl ?_ rfl ?_ ?_; (repeat (refine AllT.cons (by first | rfl | (simp [lkT]; done) | (simp -implicitDefEqProofs (maxSteps := 4000000) only [go_sem, Nat.reduceAdd, Nat.reduceSub, Nat.reduceMul, Nat.reduceLT, Nat.reduceEqDiff, Nat.reduceLeDiff, Nat.reduceBEq, Int.reduceLE, Int.reduceEq, Int.reduceNe, Int.reduceLT, Int.reduceToNat, reduceCtorEq]; rfl)) ?_)); exact AllT.nil; (repeat (refine AllB.cons (by first | rfl | (simp [lookN]; done) | (simp -implicitDefEqProofs (maxSteps := 4000000) only [go_sem, Nat.reduceAdd, Nat.reduceSub, Nat.reduceMul, Nat.reduceLT, Nat.reduceEqDiff, Nat.reduceLeDiff, Nat.reduceBEq, Int.reduceLE, Int.reduceEq, Int.reduceNe, Int.reduceLT, Int.reduceToNat, reduceCtorEq]; rfl)) ?_)); exact AllB.nil; simp); (rw [hs, leqM_gt (a := a') (b := b') (by assumption) (by assumption) (by omega), leO_t (by assumption), Bool.true_and]); (dsimp only; simp only [List.length_drop]; omega))
      | (refine Som.turn (a'.drop 1, b'.drop 1) ?_ (ih _ ⟨by dsimp only; (try rw [List.length_drop]); omega, by dsimp only; (try rw [List.length_drop]); omega, ?_⟩ ?_); (refine Wk.all rfl rfl rfl ?_ rfl ?_ ?_; (repeat (refine AllT.cons (by first | rfl | (simp [lkT]; done) | (simp -implicitDefEqProofs (maxSteps := 4000000) only [go_sem, Nat.reduceAdd, Nat.reduceSub, Nat.reduceMul, Nat.reduceLT, Nat.reduceEqDiff, Nat.reduceLeDiff, Nat.reduceBEq, Int.reduceLE, Int.reduceEq, Int.reduceNe, Int.reduceLT, Int.reduceToNat, reduceCtorEq]; rfl)) ?_)); exact AllT.nil; (repeat (refine AllB.cons (by first | rfl | (simp [lookN]; done) | (simp -implicitDefEqProofs (maxSteps := 4000000) only [go_sem, Nat.reduceAdd, Nat.reduceSub, Nat.reduceMul, Nat.reduceLT, Nat.reduceEqDiff, Nat.reduceLeDiff, Nat.reduceBEq, Int.reduceLE, Int.reduceEq, Int.reduceNe, Int.reduceLT, Int.reduceToNat, reduceCtorEq]; rfl)) ?_)); exact AllB.nil; simp); (rw [hs, leqM_eq (a := a') (b := b') (by assumption) (by assumption) (by omega), leO_t (by assumption), Bool.true_and]); (dsimp only; simp only [List.length_drop]; omega))
      | (refine Som.done false ?_ rfl; rw [hs, leqM_a (a := a') (b := b') (by assumption) (by omega), leO_f (by assumption), Bool.false_and])
      | (refine Som.done false ?_ rfl; rw [hs, leqM_b (a := a') (b := b') (by omega) (by assumption), leO_f (by assumption), Bool.false_and])
      | (refine Som.done false ?_ rfl; rw [hs, leqM_lt (a := a') (b := b') (by assumption) (by assumption) (by omega), leO_f (by assumption), Bool.false_and])
      | (refine Som.done false ?_ rfl; rw [hs, leqM_gt (a := a') (b := b') (by assumption) (by assumption) (by omega), leO_f (by assumption), Bool.false_and])
      | (refine Som.done false ?_ rfl; rw [hs, leqM_eq (a := a') (b := b') (by assumption) (by assumption) (by omega), leO_f (by assumption), Bool.false_and])
      | trace_state
end Go.Proofs.Ytijkiddfobojaaa
