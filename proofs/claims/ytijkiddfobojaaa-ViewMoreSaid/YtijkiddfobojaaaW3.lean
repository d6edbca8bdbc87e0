import Derived.Test.YtijkiddfobojaaaW1
namespace Go.Proofs.Ytijkiddfobojaaa
set_option linter.all false
set_option linter.unusedSimpArgs false
set_option linter.unusedVariables false
set_option maxRecDepth 20000
set_option maxHeartbeats 2000000
open Go Go.Ab Go.Proofs
/-- A label as others see it, as the program makes it. -/
def raiseM (l : List XPair) : List XPair := (l.map fun q => (⟨q.cat, raiseL q.lev⟩ : XPair)).filter (fun q => !(q.lev == 2))
theorem raiseM_t {l : List XPair} {x : XPair} (h : l[0]? = some x) (h2 : raiseL x.lev = 2) : raiseM l = raiseM (l.drop 1) := by
  conv => lhs; rw [cons_of_get h]
  simp [raiseM, h2]
theorem raiseM_f {l : List XPair} {x : XPair} (h : l[0]? = some x) (h2 : ¬ raiseL x.lev = 2) : raiseM l = ⟨x.cat, raiseL x.lev⟩ :: raiseM (l.drop 1) := by
  conv => lhs; rw [cons_of_get h]
  simp [raiseM, h2]
theorem raiseM_len (l : List XPair) : (raiseM l).length ≤ l.length := by
  unfold raiseM; exact Nat.le_trans (List.length_filter_le _ _) (by simp)
theorem f97_ok (a : List XPair) (ha : a.length ≤ 1000000) : PureOK Try.prog 97 [encL XPair.enc a, encL XPair.enc [], .v (.func (.func 98) #[] #[])] [encL XPair.enc (raiseM a)] := by
  refine PureOK.of_som (out := fun r => [encL XPair.enc r]) ?_
  refine Som.body [] Try.func97 (by rfl) (by simp [Try.f97]) (fun hwf => ?_) (fun _ => ⟨_, rfl⟩)
  simp -implicitDefEqProofs (maxSteps := 4000000) only [go_sem, Nat.reduceAdd, Nat.reduceSub, Nat.reduceMul, Nat.reduceLT, Nat.reduceEqDiff, Nat.reduceLeDiff, Nat.reduceBEq, Int.reduceLE, Int.reduceEq, Int.reduceNe, Int.reduceLT, Int.reduceToNat, reduceCtorEq, Try.f97]
  refine Som.imp (fun r h => TCall_enter [67] Try.func67 (by rfl) (by simp [Try.f67]) h) ?_
  simp -implicitDefEqProofs (maxSteps := 4000000) only [go_sem, Nat.reduceAdd, Nat.reduceSub, Nat.reduceMul, Nat.reduceLT, Nat.reduceEqDiff, Nat.reduceLeDiff, Nat.reduceBEq, Int.reduceLE, Int.reduceEq, Int.reduceNe, Int.reduceLT, Int.reduceToNat, reduceCtorEq, Try.f67]
  refine Som.imp (fun r h => TC_rangeFunc [1000] [95] rfl (by simp [rds]) (by simp [lookN]) (by simp -implicitDefEqProofs (maxSteps := 4000000) only [go_sem, Nat.reduceAdd, Nat.reduceSub, Nat.reduceMul, Nat.reduceLT, Nat.reduceEqDiff, Nat.reduceLeDiff, Nat.reduceBEq, Int.reduceLE, Int.reduceEq, Int.reduceNe, Int.reduceLT, Int.reduceToNat, reduceCtorEq]) (by simp -implicitDefEqProofs (maxSteps := 4000000) only [go_sem, Nat.reduceAdd, Nat.reduceSub, Nat.reduceMul, Nat.reduceLT, Nat.reduceEqDiff, Nat.reduceLeDiff, Nat.reduceBEq, Int.reduceLE, Int.reduceEq, Int.reduceNe, Int.reduceLT, Int.reduceToNat, reduceCtorEq]; rfl) (by simp -implicitDefEqProofs (maxSteps := 4000000) only [go_sem, Nat.reduceAdd, Nat.reduceSub, Nat.reduceMul, Nat.reduceLT, Nat.reduceEqDiff, Nat.reduceLeDiff, Nat.reduceBEq, Int.reduceLE, Int.reduceEq, Int.reduceNe, Int.reduceLT, Int.reduceToNat, reduceCtorEq]) (by kernel_rfl) Try.func95 (by rfl) (by simp [Try.f95]) h) ?_
  simp -implicitDefEqProofs (maxSteps := 4000000) only [go_sem, Nat.reduceAdd, Nat.reduceSub, Nat.reduceMul, Nat.reduceLT, Nat.reduceEqDiff, Nat.reduceLeDiff, Nat.reduceBEq, Int.reduceLE, Int.reduceEq, Int.reduceNe, Int.reduceLT, Int.reduceToNat, reduceCtorEq, Try.f95]
  refine Som.loopL (fun k : List XPair × List XPair => ([(0, .yld [1000]), (1, .ptr [2, 67] 0), (2, .ptr [3, 67] 0)], [([2, 67], .d (encL XPair.enc k.1)), ([3, 67], .d (encL XPair.enc [])), ([5], .d (.v (.func (.func 98) #[] #[]))), ([7], .own [1000000, 7] 2 (k.2.map XPair.enc))])) (fun k => k.1.length + k.2.length ≤ 1000000 ∧ raiseM a = k.2 ++ raiseM k.1) (fun k => k.1.length) (a, []) ?_ ⟨by simpa using ha, by simp⟩ ?_
  · (refine Wk.all rfl rfl rfl ?_ rfl ?_ ?_; (repeat (refine AllT.cons (by first | rfl | (simp [lkT]; done) | (simp -implicitDefEqProofs (maxSteps := 4000000) only [go_sem, Nat.reduceAdd, Nat.reduceSub, Nat.reduceMul, Nat.reduceLT, Nat.reduceEqDiff, Nat.reduceLeDiff, Nat.reduceBEq, Int.reduceLE, Int.reduceEq, Int.reduceNe, Int.reduceLT, Int.reduceToNat, reduceCtorEq]; rfl)) ?_)); exact AllT.nil; (repeat (refine AllB.cons (by first | rfl | (simp [lookN]; done) | (simp -implicitDefEqProofs (maxSteps := 4000000) only [go_sem, Nat.reduceAdd, Nat.reduceSub, Nat.reduceMul, Nat.reduceLT, Nat.reduceEqDiff, Nat.reduceLeDiff, Nat.reduceBEq, Int.reduceLE, Int.reduceEq, Int.reduceNe, Int.reduceLT, Int.reduceToNat, reduceCtorEq]; rfl)) ?_)); exact AllB.nil; simp)
  · rintro T ⟨a', z⟩ ⟨hlen, hs⟩ ih
    dsimp only at hlen hs
    have hw := wrap_i64 (x := (a'.length : Int)) (by omega) (by omega)
    simp -implicitDefEqProofs (maxSteps := 4000000) only [go_sem, Nat.reduceAdd, Nat.reduceSub, Nat.reduceMul, Nat.reduceLT, Nat.reduceEqDiff, Nat.reduceLeDiff, Nat.reduceBEq, Int.reduceLE, Int.reduceEq, Int.reduceNe, Int.reduceLT, Int.reduceToNat, reduceCtorEq, hw, Int.add_zero]
    (repeat' first
      | (refine Som.case (fun h => ?_) (fun h => ?_) <;> (try simp only [decide_eq_true_eq, decide_eq_false_iff_not, beq_iff_eq, beq_eq_false_iff_ne, bne_iff_ne, bne_eq_false_iff_eq, Bool.not_eq_true', Bool.not_eq_false', Bool.false_eq_true, Bool.true_eq_false, reduceCtorEq, ne_eq, Int.not_lt, Int.not_le, Int.ofNat_inj] at h))
      | (refine Som.got (by assumption) ?_)
      | (refine Som.getw (by assumption) (by omega) (fun x hx hxw => ?_))
      | (refine Som.get (by omega) (fun x hx => ?_))
      | (refine Som.and (by first | omega | trivial | assumption | (simp; done) | (simp; omega)) ?_)
      | (refine Som.done _ ?_ (by first | rfl | trivial | assumption); (first | trivial | assumption | (intro hh; cases hh; done) | (exact fun hh => ⟨hr hh, by omega⟩) | (exact fun _ => ⟨(‹_ = true → FitL _ ∧ _› (by assumption)).1, by omega, by omega⟩) | exact XObject.wfz | exact WfO.wf (by assumption) | exact ⟨XObject.wfz, .inr rfl⟩ | exact ⟨WfO.wf (by assumption), .inl (List.mem_of_getElem? (by assumption))⟩ | (simp; done)))
      | (refine Som.draw (id := 3) [.calm [0, 1, 2, 3, 4, 5, 6, 7, 8, 9, 10, 11, 12, 13, 14, 15, 16, 17, 18, 19]] mixed (by kernel_rfl) ?_; try simp -implicitDefEqProofs (maxSteps := 4000000) only [go_sem, Nat.reduceAdd, Nat.reduceSub, Nat.reduceMul, Nat.reduceLT, Nat.reduceEqDiff, Nat.reduceLeDiff, Nat.reduceBEq, Int.reduceLE, Int.reduceEq, Int.reduceNe, Int.reduceLT, Int.reduceToNat, reduceCtorEq, tby55])
      | (refine Som.draw (id := 4) [.calm [0, 1, 2, 3, 4, 5, 6, 7, 8, 9, 10, 11, 12, 13, 14, 15, 16, 17, 18, 19]] mixed (by kernel_rfl) ?_; try simp -implicitDefEqProofs (maxSteps := 4000000) only [go_sem, Nat.reduceAdd, Nat.reduceSub, Nat.reduceMul, Nat.reduceLT, Nat.reduceEqDiff, Nat.reduceLeDiff, Nat.reduceBEq, Int.reduceLE, Int.reduceEq, Int.reduceNe, Int.reduceLT, Int.reduceToNat, reduceCtorEq, tby55])
      | (refine Som.draw (id := 6) [.calm [0, 1, 2, 3, 4, 5, 6, 7, 8, 9], .bar 10] mixed (by kernel_rfl) ?_; try simp -implicitDefEqProofs (maxSteps := 4000000) only [go_sem, Nat.reduceAdd, Nat.reduceSub, Nat.reduceMul, Nat.reduceLT, Nat.reduceEqDiff, Nat.reduceLeDiff, Nat.reduceBEq, Int.reduceLE, Int.reduceEq, Int.reduceNe, Int.reduceLT, Int.reduceToNat, reduceCtorEq, tby55])
      | (refine Som.draw (id := 9) [.calm [0, 1, 2, 3, 4, 5, 6, 7, 8, 9], .bar 10] mixed (by kernel_rfl) ?_; try simp -implicitDefEqProofs (maxSteps := 4000000) only [go_sem, Nat.reduceAdd, Nat.reduceSub, Nat.reduceMul, Nat.reduceLT, Nat.reduceEqDiff, Nat.reduceLeDiff, Nat.reduceBEq, Int.reduceLE, Int.reduceEq, Int.reduceNe, Int.reduceLT, Int.reduceToNat, reduceCtorEq, tby55])
      | (simp -implicitDefEqProofs (maxSteps := 4000000) only [go_sem, Nat.reduceAdd, Nat.reduceSub, Nat.reduceMul, Nat.reduceLT, Nat.reduceEqDiff, Nat.reduceLeDiff, Nat.reduceBEq, Int.reduceLE, Int.reduceEq, Int.reduceNe, Int.reduceLT, Int.reduceToNat, reduceCtorEq, tby55]))
    all_goals first
      | (exfalso; omega)
      | (refine Som.imp (fun r h => TYld_enter [1001] (by rfl) (by rfl) (by simp) (by rfl) h) ?_; simp -implicitDefEqProofs (maxSteps := 4000000) only [go_sem, Nat.reduceAdd, Nat.reduceSub, Nat.reduceMul, Nat.reduceLT, Nat.reduceEqDiff, Nat.reduceLeDiff, Nat.reduceBEq, Int.reduceLE, Int.reduceEq, Int.reduceNe, Int.reduceLT, Int.reduceToNat, reduceCtorEq, snocP, List.length_append, tby55]; refine Som.callx (f98_ok _ _) (by first | rfl | simp -implicitDefEqProofs (maxSteps := 4000000) only [go_sem, Nat.reduceAdd, Nat.reduceSub, Nat.reduceMul, Nat.reduceLT, Nat.reduceEqDiff, Nat.reduceLeDiff, Nat.reduceBEq, Int.reduceLE, Int.reduceEq, Int.reduceNe, Int.reduceLT, Int.reduceToNat, reduceCtorEq]) ?_; simp -implicitDefEqProofs (maxSteps := 4000000) only [go_sem, Nat.reduceAdd, Nat.reduceSub, Nat.reduceMul, Nat.reduceLT, Nat.reduceEqDiff, Nat.reduceLeDiff, Nat.reduceBEq, Int.reduceLE, Int.reduceEq, Int.reduceNe, Int.reduceLT, Int.reduceToNat, reduceCtorEq, snocP, List.length_append, tby55]; (repeat' first
      | (refine Som.case (fun h => ?_) (fun h => ?_) <;> (try simp only [decide_eq_true_eq, decide_eq_false_iff_not, beq_iff_eq, beq_eq_false_iff_ne, bne_iff_ne, bne_eq_false_iff_eq, Bool.not_eq_true', Bool.not_eq_false', Bool.false_eq_true, Bool.true_eq_false, reduceCtorEq, ne_eq, Int.not_lt, Int.not_le, Int.ofNat_inj] at h))
      | (refine Som.got (by assumption) ?_)
      | (refine Som.getw (by assumption) (by omega) (fun x hx hxw => ?_))
      | (refine Som.get (by omega) (fun x hx => ?_))
      | (refine Som.and (by first | omega | trivial | assumption | (simp; done) | (simp; omega)) ?_)
      | (refine Som.done _ ?_ (by first | rfl | trivial | assumption); (first | trivial | assumption | (intro hh; cases hh; done) | (exact fun hh => ⟨hr hh, by omega⟩) | (exact fun _ => ⟨(‹_ = true → FitL _ ∧ _› (by assumption)).1, by omega, by omega⟩) | exact XObject.wfz | exact WfO.wf (by assumption) | exact ⟨XObject.wfz, .inr rfl⟩ | exact ⟨WfO.wf (by assumption), .inl (List.mem_of_getElem? (by assumption))⟩ | (simp; done)))
      | (refine Som.done [] ?_ rfl; (first | trivial | assumption | (intro hh; cases hh; done) | (exact fun hh => ⟨hr hh, by omega⟩) | (exact fun _ => ⟨(‹_ = true → FitL _ ∧ _› (by assumption)).1, by omega, by omega⟩) | exact XObject.wfz | exact WfO.wf (by assumption) | exact ⟨XObject.wfz, .inr rfl⟩ | exact ⟨WfO.wf (by assumption), .inl (List.mem_of_getElem? (by assumption))⟩ | (simp; done)))
      | (simp -implicitDefEqProofs (maxSteps := 4000000) only [go_sem, Nat.reduceAdd, Nat.reduceSub, Nat.reduceMul, Nat.reduceLT, Nat.reduceEqDiff, Nat.reduceLeDiff, Nat.reduceBEq, Int.reduceLE, Int.reduceEq, Int.reduceNe, Int.reduceLT, Int.reduceToNat, reduceCtorEq, snocP, List.length_append, tby55])))
      | skip
    all_goals first
      | (refine Som.turn (a'.drop 1, z) ?_ (ih _ ⟨by dsimp only; rw [List.length_drop]; omega, ?_⟩ ?_); (refine Wk.all rfl rfl rfl ?_ rfl ?_ ?_; (repeat (refine AllT.cons (by first | rfl | (simp [lkT]; done) | (simp -implicitDefEqProofs (maxSteps := 4000000) only [go_sem, Nat.reduceAdd, Nat.reduceSub, Nat.reduceMul, Nat.reduceLT, Nat.reduceEqDiff, Nat.reduceLeDiff, Nat.reduceBEq, Int.reduceLE, Int.reduceEq, Int.reduceNe, Int.reduceLT, Int.reduceToNat, reduceCtorEq]; rfl)) ?_)); exact AllT.nil; (repeat (refine AllB.cons (by first | rfl | (simp [lookN]; done) | (simp -implicitDefEqProofs (maxSteps := 4000000) only [go_sem, Nat.reduceAdd, Nat.reduceSub, Nat.reduceMul, Nat.reduceLT, Nat.reduceEqDiff, Nat.reduceLeDiff, Nat.reduceBEq, Int.reduceLE, Int.reduceEq, Int.reduceNe, Int.reduceLT, Int.reduceToNat, reduceCtorEq]; rfl)) ?_)); exact AllB.nil; simp); (rw [hs, raiseM_t (l := a') (by assumption) (by assumption)]); (dsimp only; simp only [List.length_drop]; omega))
      | (refine Som.turn (a'.drop 1, z ++ [⟨x.cat, raiseL x.lev⟩]) ?_ (ih _ ⟨by dsimp only; rw [List.length_drop, List.length_append]; simp only [List.length_cons, List.length_nil]; omega, ?_⟩ ?_); (refine Wk.all rfl rfl rfl ?_ rfl ?_ ?_; (repeat (refine AllT.cons (by first | rfl | (simp [lkT]; done) | (simp -implicitDefEqProofs (maxSteps := 4000000) only [go_sem, Nat.reduceAdd, Nat.reduceSub, Nat.reduceMul, Nat.reduceLT, Nat.reduceEqDiff, Nat.reduceLeDiff, Nat.reduceBEq, Int.reduceLE, Int.reduceEq, Int.reduceNe, Int.reduceLT, Int.reduceToNat, reduceCtorEq]; rfl)) ?_)); exact AllT.nil; (repeat (refine AllB.cons (by first | rfl | (simp [lookN]; done) | (simp -implicitDefEqProofs (maxSteps := 4000000) only [go_sem, Nat.reduceAdd, Nat.reduceSub, Nat.reduceMul, Nat.reduceLT, Nat.reduceEqDiff, Nat.reduceLeDiff, Nat.reduceBEq, Int.reduceLE, Int.reduceEq, Int.reduceNe, Int.reduceLT, Int.reduceToNat, reduceCtorEq]; rfl)) ?_)); exact AllB.nil; simp); (rw [hs, raiseM_f (l := a') (by assumption) (by assumption)]; simp); (dsimp only; simp only [List.length_drop]; omega))
      | (refine Som.done z ?_ rfl; rw [hs, List.eq_nil_of_length_eq_zero (show a'.length = 0 by omega)]; simp [raiseM])
      | trace_state
theorem f69_ok (l : List XPair) (hl : l.length ≤ 1000000) : PureOK Try.prog 69 [encL XPair.enc l] [encL XPair.enc (raiseM l)] := by
  refine PureOK.of_body' [] Try.func69 (by rfl) (by simp [Try.f69]) (fun hwf => ?_)
  simp -implicitDefEqProofs (maxSteps := 4000000) only [go_sem, Nat.reduceAdd, Nat.reduceSub, Nat.reduceMul, Nat.reduceLT, Nat.reduceEqDiff, Nat.reduceLeDiff, Nat.reduceBEq, Int.reduceLE, Int.reduceEq, Int.reduceNe, Int.reduceLT, Int.reduceToNat, reduceCtorEq, Try.f69]
  refine TCall_pure (f97_ok l hl) (by rfl) ?_
  simp -implicitDefEqProofs (maxSteps := 4000000) only [go_sem, Nat.reduceAdd, Nat.reduceSub, Nat.reduceMul, Nat.reduceLT, Nat.reduceEqDiff, Nat.reduceLeDiff, Nat.reduceBEq, Int.reduceLE, Int.reduceEq, Int.reduceNe, Int.reduceLT, Int.reduceToNat, reduceCtorEq]
/-- The label by which others see an object. -/
def shownO (o : XObject) : List XPair := if o.kind = 4 then raiseM o.label else o.label
theorem f39_ok (o : XObject) (ho : o.label.length ≤ 1000000) : PureOK Try.prog 39 [XObject.enc o] [encL XPair.enc (shownO o)] := by
  refine PureOK.of_body' [] Try.func39 (by rfl) (by simp [Try.f39]) (fun hwf => ?_)
  simp -implicitDefEqProofs (maxSteps := 4000000) only [go_sem, Nat.reduceAdd, Nat.reduceSub, Nat.reduceMul, Nat.reduceLT, Nat.reduceEqDiff, Nat.reduceLeDiff, Nat.reduceBEq, Int.reduceLE, Int.reduceEq, Int.reduceNe, Int.reduceLT, Int.reduceToNat, reduceCtorEq, Try.f39]
  refine ⟨fun h => ?_, fun h => ?_⟩
  · have h' : o.kind ≠ 4 := by simpa using h
    simp [shownO, h']
  · have h' : o.kind = 4 := by simpa using h
    refine TCall_pure (f69_ok o.label ho) (by simp -implicitDefEqProofs (maxSteps := 4000000) only [go_sem, Nat.reduceAdd, Nat.reduceSub, Nat.reduceMul, Nat.reduceLT, Nat.reduceEqDiff, Nat.reduceLeDiff, Nat.reduceBEq, Int.reduceLE, Int.reduceEq, Int.reduceNe, Int.reduceLT, Int.reduceToNat, reduceCtorEq]) ?_
    simp -implicitDefEqProofs (maxSteps := 4000000) only [go_sem, Nat.reduceAdd, Nat.reduceSub, Nat.reduceMul, Nat.reduceLT, Nat.reduceEqDiff, Nat.reduceLeDiff, Nat.reduceBEq, Int.reduceLE, Int.reduceEq, Int.reduceNe, Int.reduceLT, Int.reduceToNat, reduceCtorEq]
    simp [shownO, h']
def seenO (o : XObject) (l : List XPair) : Bool := leqM (shownO o) l
theorem shownO_len (o : XObject) : (shownO o).length ≤ o.label.length := by
  unfold shownO; split
  · exact raiseM_len _
  · exact Nat.le_refl _
theorem f13_ok (o : XObject) (l : List XPair) (ho : o.label.length ≤ 1000000) (hl : l.length ≤ 1000000) : PureOK Try.prog 13 [XObject.enc o, encL XPair.enc l] [.b (seenO o l)] := by
  refine PureOK.of_body' [] Try.func13 (by rfl) (by simp [Try.f13]) (fun hwf => ?_)
  simp -implicitDefEqProofs (maxSteps := 4000000) only [go_sem, Nat.reduceAdd, Nat.reduceSub, Nat.reduceMul, Nat.reduceLT, Nat.reduceEqDiff, Nat.reduceLeDiff, Nat.reduceBEq, Int.reduceLE, Int.reduceEq, Int.reduceNe, Int.reduceLT, Int.reduceToNat, reduceCtorEq, Try.f13]
  refine TCall_pure (f39_ok o ho) (by simp -implicitDefEqProofs (maxSteps := 4000000) only [go_sem, Nat.reduceAdd, Nat.reduceSub, Nat.reduceMul, Nat.reduceLT, Nat.reduceEqDiff, Nat.reduceLeDiff, Nat.reduceBEq, Int.reduceLE, Int.reduceEq, Int.reduceNe, Int.reduceLT, Int.reduceToNat, reduceCtorEq]) ?_
  simp -implicitDefEqProofs (maxSteps := 4000000) only [go_sem, Nat.reduceAdd, Nat.reduceSub, Nat.reduceMul, Nat.reduceLT, Nat.reduceEqDiff, Nat.reduceLeDiff, Nat.reduceBEq, Int.reduceLE, Int.reduceEq, Int.reduceNe, Int.reduceLT, Int.reduceToNat, reduceCtorEq]
  refine TCall_pure (f38_ok (shownO o) l (Nat.le_trans (shownO_len o) ho) hl) (by simp -implicitDefEqProofs (maxSteps := 4000000) only [go_sem, Nat.reduceAdd, Nat.reduceSub, Nat.reduceMul, Nat.reduceLT, Nat.reduceEqDiff, Nat.reduceLeDiff, Nat.reduceBEq, Int.reduceLE, Int.reduceEq, Int.reduceNe, Int.reduceLT, Int.reduceToNat, reduceCtorEq]) ?_
  simp -implicitDefEqProofs (maxSteps := 4000000) only [go_sem, Nat.reduceAdd, Nat.reduceSub, Nat.reduceMul, Nat.reduceLT, Nat.reduceEqDiff, Nat.reduceLeDiff, Nat.reduceBEq, Int.reduceLE, Int.reduceEq, Int.reduceNe, Int.reduceLT, Int.reduceToNat, reduceCtorEq]
  rfl
end Go.Proofs.Ytijkiddfobojaaa
