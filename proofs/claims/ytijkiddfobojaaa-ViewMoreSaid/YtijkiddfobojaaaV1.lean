import Derived.Test.YtijkiddfobojaaaT8
import Derived.Test.YtijkiddfobojaaaAbS
namespace Go.Proofs.Ytijkiddfobojaaa
set_option linter.all false
set_option linter.unusedSimpArgs false
set_option linter.unusedVariables false
set_option maxRecDepth 20000
set_option maxHeartbeats 2000000
open Go Go.Ab Go.Proofs
theorem f57_ex (l : List Int) (n : Int) : Som (fun _ : Bool => True) (fun r => PureOK Try.prog 57 [encL D.u l, .u n] [.b r]) := by
  refine Som.body [] Try.func57 (by rfl) (by simp [Try.f57]) (fun hwf => ?_) (fun _ => ⟨false, by (first | trivial | exact XObject.wfz | exact ⟨XObject.wfz, .inr rfl⟩ | (intro hh; cases hh; done) | (simp; done))⟩)
  simp -implicitDefEqProofs (maxSteps := 4000000) only [go_sem, Nat.reduceAdd, Nat.reduceSub, Nat.reduceMul, Nat.reduceLT, Nat.reduceEqDiff, Nat.reduceLeDiff, Nat.reduceBEq, Int.reduceLE, Int.reduceEq, Int.reduceNe, Int.reduceLT, Int.reduceToNat, reduceCtorEq, Try.f57]
  obtain ⟨hp0, hp1, -⟩ := hwf
  have ⟨hl0, hm0⟩ := (wf_encL _ _).1 hp0
  have hu1 := (wf_u _).1 hp1
  (repeat' first
      | (refine Som.case (fun h => ?_) (fun h => ?_) <;> (try simp only [decide_eq_true_eq, decide_eq_false_iff_not, beq_iff_eq, beq_eq_false_iff_ne, bne_iff_ne, bne_eq_false_iff_eq, Bool.not_eq_true', Bool.not_eq_false', Bool.false_eq_true, Bool.true_eq_false, reduceCtorEq, ne_eq, Int.not_lt, Int.not_le, Int.ofNat_inj] at h))
      | (refine Som.got (by assumption) ?_)
      | (refine Som.getw (by assumption) (by omega) (fun x hx hxw => ?_))
      | (refine Som.get (by omega) (fun x hx => ?_))
      | (refine Som.and (by first | omega | trivial | assumption | (simp; done) | (simp; omega)) ?_)
      | (refine Som.done _ ?_ (by first | rfl | trivial | assumption); (first | trivial | assumption | (intro hh; cases hh; done) | (exact fun hh => ⟨hr hh, by omega⟩) | (exact fun _ => ⟨(‹_ = true → FitL _ ∧ _› (by assumption)).1, by omega, by omega⟩) | exact XObject.wfz | exact WfO.wf (by assumption) | exact ⟨XObject.wfz, .inr rfl⟩ | exact ⟨WfO.wf (by assumption), .inl (List.mem_of_getElem? (by assumption))⟩ | (simp; done)))
      | (simp -implicitDefEqProofs (maxSteps := 4000000) only [go_sem, Nat.reduceAdd, Nat.reduceSub, Nat.reduceMul, Nat.reduceLT, Nat.reduceEqDiff, Nat.reduceLeDiff, Nat.reduceBEq, Int.reduceLE, Int.reduceEq, Int.reduceNe, Int.reduceLT, Int.reduceToNat, reduceCtorEq]))
  all_goals (
      refine' Som.loop (b := .seq (.seq (.region 2 _ _) _) _) (fun x : Nat => { rd := none, n := 18, ts := [(0, .d (encL D.u l)), (1, .d (.u n)), (5, .d (.i x))], sv := [], bx := [], lp := [], ow := [] }) (fun x => x ≤ l.length) (fun x => l.length - x) 0 ?_ ?_ ?_
      (refine Wk.all rfl rfl rfl ?_ rfl ?_ ?_; (repeat (refine AllT.cons (by first | rfl | (simp [lkT]; done) | (simp -implicitDefEqProofs (maxSteps := 4000000) only [go_sem, Nat.reduceAdd, Nat.reduceSub, Nat.reduceMul, Nat.reduceLT, Nat.reduceEqDiff, Nat.reduceLeDiff, Nat.reduceBEq, Int.reduceLE, Int.reduceEq, Int.reduceNe, Int.reduceLT, Int.reduceToNat, reduceCtorEq]; rfl)) ?_)); exact AllT.nil; (repeat (refine AllB.cons (by first | rfl | (simp [lookN]; done) | (simp -implicitDefEqProofs (maxSteps := 4000000) only [go_sem, Nat.reduceAdd, Nat.reduceSub, Nat.reduceMul, Nat.reduceLT, Nat.reduceEqDiff, Nat.reduceLeDiff, Nat.reduceBEq, Int.reduceLE, Int.reduceEq, Int.reduceNe, Int.reduceLT, Int.reduceToNat, reduceCtorEq]; rfl)) ?_)); exact AllB.nil; simp)
      exact (by first | omega | (simp; done))
      rintro T1 k1 hk1 ih1
      simp -implicitDefEqProofs (maxSteps := 4000000) only [go_sem, Nat.reduceAdd, Nat.reduceSub, Nat.reduceMul, Nat.reduceLT, Nat.reduceEqDiff, Nat.reduceLeDiff, Nat.reduceBEq, Int.reduceLE, Int.reduceEq, Int.reduceNe, Int.reduceLT, Int.reduceToNat, reduceCtorEq]
      (repeat' first
      | (refine Som.case (fun h => ?_) (fun h => ?_) <;> (try simp only [decide_eq_true_eq, decide_eq_false_iff_not, beq_iff_eq, beq_eq_false_iff_ne, bne_iff_ne, bne_eq_false_iff_eq, Bool.not_eq_true', Bool.not_eq_false', Bool.false_eq_true, Bool.true_eq_false, reduceCtorEq, ne_eq, Int.not_lt, Int.not_le, Int.ofNat_inj] at h))
      | (refine Som.got (by assumption) ?_)
      | (refine Som.getw (by assumption) (by omega) (fun x hx hxw => ?_))
      | (refine Som.get (by omega) (fun x hx => ?_))
      | (refine Som.and (by first | omega | trivial | assumption | (simp; done) | (simp; omega)) ?_)
      | (refine Som.done _ ?_ (by first | rfl | trivial | assumption); (first | trivial | assumption | (intro hh; cases hh; done) | (exact fun hh => ⟨hr hh, by omega⟩) | (exact fun _ => ⟨(‹_ = true → FitL _ ∧ _› (by assumption)).1, by omega, by omega⟩) | exact XObject.wfz | exact WfO.wf (by assumption) | exact ⟨XObject.wfz, .inr rfl⟩ | exact ⟨WfO.wf (by assumption), .inl (List.mem_of_getElem? (by assumption))⟩ | (simp; done)))
      | (simp -implicitDefEqProofs (maxSteps := 4000000) only [go_sem, Nat.reduceAdd, Nat.reduceSub, Nat.reduceMul, Nat.reduceLT, Nat.reduceEqDiff, Nat.reduceLeDiff, Nat.reduceBEq, Int.reduceLE, Int.reduceEq, Int.reduceNe, Int.reduceLT, Int.reduceToNat, reduceCtorEq]))
      all_goals first
        | (refine Som.turn (k1 + 1) ?_ (ih1 _ ?_ ?_); (have hwr := wrap_i64 (x := (k1 : Int) + 1) (by omega) (by omega); (refine Wk.all rfl rfl rfl ?_ rfl ?_ ?_; (repeat (refine AllT.cons (by first | rfl | (simp [lkT, hwr]; done) | (simp -implicitDefEqProofs (maxSteps := 4000000) only [go_sem, Nat.reduceAdd, Nat.reduceSub, Nat.reduceMul, Nat.reduceLT, Nat.reduceEqDiff, Nat.reduceLeDiff, Nat.reduceBEq, Int.reduceLE, Int.reduceEq, Int.reduceNe, Int.reduceLT, Int.reduceToNat, reduceCtorEq]; rfl)) ?_)); exact AllT.nil; (repeat (refine AllB.cons (by first | rfl | (simp [lookN]; done) | (simp -implicitDefEqProofs (maxSteps := 4000000) only [go_sem, Nat.reduceAdd, Nat.reduceSub, Nat.reduceMul, Nat.reduceLT, Nat.reduceEqDiff, Nat.reduceLeDiff, Nat.reduceBEq, Int.reduceLE, Int.reduceEq, Int.reduceNe, Int.reduceLT, Int.reduceToNat, reduceCtorEq]; rfl)) ?_)); exact AllB.nil; simp)); (exact (by first | omega | (simp; done))); (show _ - (k1 + 1) < _ - k1; omega)))

theorem f31_ex (w : XWorld) (id : Int) (hn : w.objects.length ≤ 1000) : Som (fun _ : List Int => True) (fun r => PureOK Try.prog 31 [XWorld.enc w, .u id] [encL D.u r]) := by
  refine Som.body [] Try.func31 (by rfl) (by simp [Try.f31]) (fun hwf => ?_) (fun _ => ⟨[], by (first | trivial | exact XObject.wfz | exact ⟨XObject.wfz, .inr rfl⟩ | (intro hh; cases hh; done) | (simp; done))⟩)
  simp -implicitDefEqProofs (maxSteps := 4000000) only [go_sem, Nat.reduceAdd, Nat.reduceSub, Nat.reduceMul, Nat.reduceLT, Nat.reduceEqDiff, Nat.reduceLeDiff, Nat.reduceBEq, Int.reduceLE, Int.reduceEq, Int.reduceNe, Int.reduceLT, Int.reduceToNat, reduceCtorEq, Try.f31]
  obtain ⟨hp0, hp1, -⟩ := hwf
  have ⟨hl0, ho0⟩ := XWorld.wfs hp0
  have hu1 := (wf_u _).1 hp1
  (repeat' first
      | (refine Som.case (fun h => ?_) (fun h => ?_) <;> (try simp only [decide_eq_true_eq, decide_eq_false_iff_not, beq_iff_eq, beq_eq_false_iff_ne, bne_iff_ne, bne_eq_false_iff_eq, Bool.not_eq_true', Bool.not_eq_false', Bool.false_eq_true, Bool.true_eq_false, reduceCtorEq, ne_eq, Int.not_lt, Int.not_le, Int.ofNat_inj] at h))
      | (refine Som.got (by assumption) ?_)
      | (refine Som.getw (by assumption) (by omega) (fun x hx hxw => ?_))
      | (refine Som.get (by omega) (fun x hx => ?_))
      | (refine Som.and (by first | omega | trivial | assumption | (simp; done) | (simp; omega)) ?_)
      | (refine Som.done _ ?_ (by first | rfl | trivial | assumption); (first | trivial | assumption | (intro hh; cases hh; done) | (exact fun hh => ⟨hr hh, by omega⟩) | (exact fun _ => ⟨(‹_ = true → FitL _ ∧ _› (by assumption)).1, by omega, by omega⟩) | exact XObject.wfz | exact WfO.wf (by assumption) | exact ⟨XObject.wfz, .inr rfl⟩ | exact ⟨WfO.wf (by assumption), .inl (List.mem_of_getElem? (by assumption))⟩ | (simp; done)))
      | (refine Som.done [] ?_ rfl; (first | trivial | assumption | (intro hh; cases hh; done) | (exact fun hh => ⟨hr hh, by omega⟩) | (exact fun _ => ⟨(‹_ = true → FitL _ ∧ _› (by assumption)).1, by omega, by omega⟩) | exact XObject.wfz | exact WfO.wf (by assumption) | exact ⟨XObject.wfz, .inr rfl⟩ | exact ⟨WfO.wf (by assumption), .inl (List.mem_of_getElem? (by assumption))⟩ | (simp; done)))
      | (refine Som.call (f57_ex _ _) (by first | rfl | (simp only [go_sem, Nat.reduceAdd, Nat.reduceSub, Nat.reduceMul, Nat.reduceLT, Nat.reduceEqDiff, Nat.reduceLeDiff, Nat.reduceBEq, Int.reduceLE, Int.reduceEq, Int.reduceNe, Int.reduceLT, Int.reduceToNat, reduceCtorEq]; done)) (fun r hr => ?_); try simp -implicitDefEqProofs (maxSteps := 4000000) only [go_sem, Nat.reduceAdd, Nat.reduceSub, Nat.reduceMul, Nat.reduceLT, Nat.reduceEqDiff, Nat.reduceLeDiff, Nat.reduceBEq, Int.reduceLE, Int.reduceEq, Int.reduceNe, Int.reduceLT, Int.reduceToNat, reduceCtorEq])
      | (refine Som.pcall (f57_ex _ _) (by first | rfl | (simp only [go_sem, Nat.reduceAdd, Nat.reduceSub, Nat.reduceMul, Nat.reduceLT, Nat.reduceEqDiff, Nat.reduceLeDiff, Nat.reduceBEq, Int.reduceLE, Int.reduceEq, Int.reduceNe, Int.reduceLT, Int.reduceToNat, reduceCtorEq]; done)) (fun r hr => ?_); try simp -implicitDefEqProofs (maxSteps := 4000000) only [go_sem, Nat.reduceAdd, Nat.reduceSub, Nat.reduceMul, Nat.reduceLT, Nat.reduceEqDiff, Nat.reduceLeDiff, Nat.reduceBEq, Int.reduceLE, Int.reduceEq, Int.reduceNe, Int.reduceLT, Int.reduceToNat, reduceCtorEq])
      | (simp -implicitDefEqProofs (maxSteps := 4000000) only [go_sem, Nat.reduceAdd, Nat.reduceSub, Nat.reduceMul, Nat.reduceLT, Nat.reduceEqDiff, Nat.reduceLeDiff, Nat.reduceBEq, Int.reduceLE, Int.reduceEq, Int.reduceNe, Int.reduceLT, Int.reduceToNat, reduceCtorEq]))
  all_goals (
      refine' Som.loop (b := .seq (.seq (.region 3 _ _) _) _) (fun x : Nat × V => { rd := none, n := 32, ts := [(1, .d (.u id)), (2, .ptr [2] 0), (6, .d (.i x.1)), (5, x.2)], sv := [], bx := [([2], .d (XWorld.enc w))], lp := [], ow := [[5]] }) (fun x => x.1 ≤ w.objects.length ∧ (∃ l : List Int, x.2 = .own [5] 1 (l.map D.u) ∧ l.length ≤ x.1)) (fun x => w.objects.length - x.1) (0, _) ?_ ?_ ?_
      rotate_left 1
      (refine Wk.all rfl rfl rfl ?_ rfl ?_ ?_; (repeat (refine AllT.cons (by first | rfl | (simp [lkT]; done) | (simp -implicitDefEqProofs (maxSteps := 4000000) only [go_sem, Nat.reduceAdd, Nat.reduceSub, Nat.reduceMul, Nat.reduceLT, Nat.reduceEqDiff, Nat.reduceLeDiff, Nat.reduceBEq, Int.reduceLE, Int.reduceEq, Int.reduceNe, Int.reduceLT, Int.reduceToNat, reduceCtorEq]; rfl)) ?_)); exact AllT.nil; (repeat (refine AllB.cons (by first | rfl | (simp [lookN]; done) | (simp -implicitDefEqProofs (maxSteps := 4000000) only [go_sem, Nat.reduceAdd, Nat.reduceSub, Nat.reduceMul, Nat.reduceLT, Nat.reduceEqDiff, Nat.reduceLeDiff, Nat.reduceBEq, Int.reduceLE, Int.reduceEq, Int.reduceNe, Int.reduceLT, Int.reduceToNat, reduceCtorEq]; rfl)) ?_)); exact AllB.nil; simp)
      exact ⟨by first | omega | (simp; done), ⟨_, by (first | rfl | exact own_nil | exact own_snoc | exact own_snocP), by (first | omega | (simp; done) | (simp; omega))⟩⟩
      rintro T1 ⟨k1, v1_1⟩ ⟨hk1, ⟨z1_1, rfl, hz1_1⟩⟩ ih1
      try dsimp only at hk1 hz1_1
      simp -implicitDefEqProofs (maxSteps := 4000000) only [go_sem, Nat.reduceAdd, Nat.reduceSub, Nat.reduceMul, Nat.reduceLT, Nat.reduceEqDiff, Nat.reduceLeDiff, Nat.reduceBEq, Int.reduceLE, Int.reduceEq, Int.reduceNe, Int.reduceLT, Int.reduceToNat, reduceCtorEq]
      (repeat' first
      | (refine Som.case (fun h => ?_) (fun h => ?_) <;> (try simp only [decide_eq_true_eq, decide_eq_false_iff_not, beq_iff_eq, beq_eq_false_iff_ne, bne_iff_ne, bne_eq_false_iff_eq, Bool.not_eq_true', Bool.not_eq_false', Bool.false_eq_true, Bool.true_eq_false, reduceCtorEq, ne_eq, Int.not_lt, Int.not_le, Int.ofNat_inj] at h))
      | (refine Som.got (by assumption) ?_)
      | (refine Som.getw (by assumption) (by omega) (fun x hx hxw => ?_))
      | (refine Som.get (by omega) (fun x hx => ?_))
      | (refine Som.and (by first | omega | trivial | assumption | (simp; done) | (simp; omega)) ?_)
      | (refine Som.done _ ?_ (by first | rfl | trivial | assumption); (first | trivial | assumption | (intro hh; cases hh; done) | (exact fun hh => ⟨hr hh, by omega⟩) | (exact fun _ => ⟨(‹_ = true → FitL _ ∧ _› (by assumption)).1, by omega, by omega⟩) | exact XObject.wfz | exact WfO.wf (by assumption) | exact ⟨XObject.wfz, .inr rfl⟩ | exact ⟨WfO.wf (by assumption), .inl (List.mem_of_getElem? (by assumption))⟩ | (simp; done)))
      | (refine Som.done [] ?_ rfl; (first | trivial | assumption | (intro hh; cases hh; done) | (exact fun hh => ⟨hr hh, by omega⟩) | (exact fun _ => ⟨(‹_ = true → FitL _ ∧ _› (by assumption)).1, by omega, by omega⟩) | exact XObject.wfz | exact WfO.wf (by assumption) | exact ⟨XObject.wfz, .inr rfl⟩ | exact ⟨WfO.wf (by assumption), .inl (List.mem_of_getElem? (by assumption))⟩ | (simp; done)))
      | (refine Som.call (f57_ex _ _) (by first | rfl | (simp only [go_sem, Nat.reduceAdd, Nat.reduceSub, Nat.reduceMul, Nat.reduceLT, Nat.reduceEqDiff, Nat.reduceLeDiff, Nat.reduceBEq, Int.reduceLE, Int.reduceEq, Int.reduceNe, Int.reduceLT, Int.reduceToNat, reduceCtorEq]; done)) (fun r hr => ?_); try simp -implicitDefEqProofs (maxSteps := 4000000) only [go_sem, Nat.reduceAdd, Nat.reduceSub, Nat.reduceMul, Nat.reduceLT, Nat.reduceEqDiff, Nat.reduceLeDiff, Nat.reduceBEq, Int.reduceLE, Int.reduceEq, Int.reduceNe, Int.reduceLT, Int.reduceToNat, reduceCtorEq])
      | (refine Som.pcall (f57_ex _ _) (by first | rfl | (simp only [go_sem, Nat.reduceAdd, Nat.reduceSub, Nat.reduceMul, Nat.reduceLT, Nat.reduceEqDiff, Nat.reduceLeDiff, Nat.reduceBEq, Int.reduceLE, Int.reduceEq, Int.reduceNe, Int.reduceLT, Int.reduceToNat, reduceCtorEq]; done)) (fun r hr => ?_); try simp -implicitDefEqProofs (maxSteps := 4000000) only [go_sem, Nat.reduceAdd, Nat.reduceSub, Nat.reduceMul, Nat.reduceLT, Nat.reduceEqDiff, Nat.reduceLeDiff, Nat.reduceBEq, Int.reduceLE, Int.reduceEq, Int.reduceNe, Int.reduceLT, Int.reduceToNat, reduceCtorEq])
      | (simp -implicitDefEqProofs (maxSteps := 4000000) only [go_sem, Nat.reduceAdd, Nat.reduceSub, Nat.reduceMul, Nat.reduceLT, Nat.reduceEqDiff, Nat.reduceLeDiff, Nat.reduceBEq, Int.reduceLE, Int.reduceEq, Int.reduceNe, Int.reduceLT, Int.reduceToNat, reduceCtorEq]))
      all_goals first
        | (refine' Som.turn (k1 + 1, _) ?_ (ih1 _ ?_ ?_); (rotate_left 1); (have hwr := wrap_i64 (x := (k1 : Int) + 1) (by omega) (by omega); (refine Wk.all rfl rfl rfl ?_ rfl ?_ ?_; (repeat (refine AllT.cons (by first | rfl | (simp [lkT, hwr]; done) | (simp -implicitDefEqProofs (maxSteps := 4000000) only [go_sem, Nat.reduceAdd, Nat.reduceSub, Nat.reduceMul, Nat.reduceLT, Nat.reduceEqDiff, Nat.reduceLeDiff, Nat.reduceBEq, Int.reduceLE, Int.reduceEq, Int.reduceNe, Int.reduceLT, Int.reduceToNat, reduceCtorEq]; rfl)) ?_)); exact AllT.nil; (repeat (refine AllB.cons (by first | rfl | (simp [lookN]; done) | (simp -implicitDefEqProofs (maxSteps := 4000000) only [go_sem, Nat.reduceAdd, Nat.reduceSub, Nat.reduceMul, Nat.reduceLT, Nat.reduceEqDiff, Nat.reduceLeDiff, Nat.reduceBEq, Int.reduceLE, Int.reduceEq, Int.reduceNe, Int.reduceLT, Int.reduceToNat, reduceCtorEq]; rfl)) ?_)); exact AllB.nil; simp)); (exact ⟨by first | omega | (simp; done), ⟨_, by (first | rfl | exact own_nil | exact own_snoc | exact own_snocP), by (first | omega | (simp; done) | (simp; omega))⟩⟩); (show _ - (k1 + 1) < _ - k1; omega)))

theorem f63_ok (l : Int) : PureOK Try.prog 63 [.i l] [.b (decide (0 ≤ l ∧ l ≤ 5))] := by
  refine PureOK.of_body' [] Try.func63 (by rfl) (by simp [Try.f63]) (fun hwf => ?_)
  simp -implicitDefEqProofs (maxSteps := 4000000) only [go_sem, Nat.reduceAdd, Nat.reduceSub, Nat.reduceMul, Nat.reduceLT, Nat.reduceEqDiff, Nat.reduceLeDiff, Nat.reduceBEq, Int.reduceLE, Int.reduceEq, Int.reduceNe, Int.reduceLT, Int.reduceToNat, reduceCtorEq, Try.f63]
  refine ⟨fun h => ?_, fun h => ?_⟩ <;> simp at h <;> simp [h] <;> omega
theorem f30_ex (w : XWorld) (id : Int) : Som (fun r : XObject × Bool => (XObject.enc r.1).wf ∧ (r.1 ∈ w.objects ∨ r.1 = XObject.zero)) (fun r => PureOK Try.prog 30 [XWorld.enc w, .u id] [XObject.enc r.1, .b r.2]) := by
  refine Som.body [] Try.func30 (by rfl) (by simp [Try.f30]) (fun hwf => ?_) (fun _ => ⟨(XObject.zero, false), by (first | trivial | exact XObject.wfz | exact ⟨XObject.wfz, .inr rfl⟩ | (intro hh; cases hh; done) | (simp; done))⟩)
  simp -implicitDefEqProofs (maxSteps := 4000000) only [go_sem, Nat.reduceAdd, Nat.reduceSub, Nat.reduceMul, Nat.reduceLT, Nat.reduceEqDiff, Nat.reduceLeDiff, Nat.reduceBEq, Int.reduceLE, Int.reduceEq, Int.reduceNe, Int.reduceLT, Int.reduceToNat, reduceCtorEq, Try.f30]
  obtain ⟨hp0, hp1, -⟩ := hwf
  have ⟨hl0, ho0⟩ := XWorld.wfs hp0
  have hu1 := (wf_u _).1 hp1
  (repeat' first
      | (refine Som.case (fun h => ?_) (fun h => ?_) <;> (try simp only [decide_eq_true_eq, decide_eq_false_iff_not, beq_iff_eq, beq_eq_false_iff_ne, bne_iff_ne, bne_eq_false_iff_eq, Bool.not_eq_true', Bool.not_eq_false', Bool.false_eq_true, Bool.true_eq_false, reduceCtorEq, ne_eq, Int.not_lt, Int.not_le, Int.ofNat_inj] at h))
      | (refine Som.got (by assumption) ?_)
      | (refine Som.getw (by assumption) (by omega) (fun x hx hxw => ?_))
      | (refine Som.get (by omega) (fun x hx => ?_))
      | (refine Som.and (by first | omega | trivial | assumption | (simp; done) | (simp; omega)) ?_)
      | (refine Som.done _ ?_ (by first | rfl | trivial | assumption); (first | trivial | assumption | (intro hh; cases hh; done) | (exact fun hh => ⟨hr hh, by omega⟩) | (exact fun _ => ⟨(‹_ = true → FitL _ ∧ _› (by assumption)).1, by omega, by omega⟩) | exact XObject.wfz | exact WfO.wf (by assumption) | exact ⟨XObject.wfz, .inr rfl⟩ | exact ⟨WfO.wf (by assumption), .inl (List.mem_of_getElem? (by assumption))⟩ | (simp; done)))
      | (refine Som.done (_, _) ?_ ⟨rfl, rfl⟩; (first | trivial | assumption | (intro hh; cases hh; done) | (exact fun hh => ⟨hr hh, by omega⟩) | (exact fun _ => ⟨(‹_ = true → FitL _ ∧ _› (by assumption)).1, by omega, by omega⟩) | exact XObject.wfz | exact WfO.wf (by assumption) | exact ⟨XObject.wfz, .inr rfl⟩ | exact ⟨WfO.wf (by assumption), .inl (List.mem_of_getElem? (by assumption))⟩ | (simp; done)))
      | (simp -implicitDefEqProofs (maxSteps := 4000000) only [go_sem, Nat.reduceAdd, Nat.reduceSub, Nat.reduceMul, Nat.reduceLT, Nat.reduceEqDiff, Nat.reduceLeDiff, Nat.reduceBEq, Int.reduceLE, Int.reduceEq, Int.reduceNe, Int.reduceLT, Int.reduceToNat, reduceCtorEq]))
  all_goals (
      refine' Som.loop (b := .seq (.seq (.region 2 _ _) _) _) (fun x : Nat × V => { rd := none, n := 28, ts := [(1, .d (.u id)), (2, .ptr [2] 0), (4, .ptr [4] 0), (6, .d (.i x.1))], sv := [], bx := [([2], .d (XWorld.enc w)), ([4], x.2)], lp := [], ow := [] }) (fun x => x.1 ≤ w.objects.length ∧ (∃ a : XObject, x.2 = .d (XObject.enc a) ∧ (XObject.enc a).wf)) (fun x => w.objects.length - x.1) (0, _) ?_ ?_ ?_
      rotate_left 1
      (refine Wk.all rfl rfl rfl ?_ rfl ?_ ?_; (repeat (refine AllT.cons (by first | rfl | (simp [lkT]; done) | (simp -implicitDefEqProofs (maxSteps := 4000000) only [go_sem, Nat.reduceAdd, Nat.reduceSub, Nat.reduceMul, Nat.reduceLT, Nat.reduceEqDiff, Nat.reduceLeDiff, Nat.reduceBEq, Int.reduceLE, Int.reduceEq, Int.reduceNe, Int.reduceLT, Int.reduceToNat, reduceCtorEq]; rfl)) ?_)); exact AllT.nil; (repeat (refine AllB.cons (by first | rfl | (simp [lookN]; done) | (simp -implicitDefEqProofs (maxSteps := 4000000) only [go_sem, Nat.reduceAdd, Nat.reduceSub, Nat.reduceMul, Nat.reduceLT, Nat.reduceEqDiff, Nat.reduceLeDiff, Nat.reduceBEq, Int.reduceLE, Int.reduceEq, Int.reduceNe, Int.reduceLT, Int.reduceToNat, reduceCtorEq]; rfl)) ?_)); exact AllB.nil; simp)
      exact ⟨by first | omega | (simp; done), ⟨_, by (first | rfl | exact own_nil | exact own_snoc | exact own_snocP), by (first | assumption | exact XObject.wfz | exact WfO.wf (by assumption))⟩⟩
      rintro T1 ⟨k1, v1_1⟩ ⟨hk1, ⟨z1_1, rfl, hwz1_1⟩⟩ ih1
      try dsimp only at hk1 hwz1_1
      simp -implicitDefEqProofs (maxSteps := 4000000) only [go_sem, Nat.reduceAdd, Nat.reduceSub, Nat.reduceMul, Nat.reduceLT, Nat.reduceEqDiff, Nat.reduceLeDiff, Nat.reduceBEq, Int.reduceLE, Int.reduceEq, Int.reduceNe, Int.reduceLT, Int.reduceToNat, reduceCtorEq]
      (repeat' first
      | (refine Som.case (fun h => ?_) (fun h => ?_) <;> (try simp only [decide_eq_true_eq, decide_eq_false_iff_not, beq_iff_eq, beq_eq_false_iff_ne, bne_iff_ne, bne_eq_false_iff_eq, Bool.not_eq_true', Bool.not_eq_false', Bool.false_eq_true, Bool.true_eq_false, reduceCtorEq, ne_eq, Int.not_lt, Int.not_le, Int.ofNat_inj] at h))
      | (refine Som.got (by assumption) ?_)
      | (refine Som.getw (by assumption) (by omega) (fun x hx hxw => ?_))
      | (refine Som.get (by omega) (fun x hx => ?_))
      | (refine Som.and (by first | omega | trivial | assumption | (simp; done) | (simp; omega)) ?_)
      | (refine Som.done _ ?_ (by first | rfl | trivial | assumption); (first | trivial | assumption | (intro hh; cases hh; done) | (exact fun hh => ⟨hr hh, by omega⟩) | (exact fun _ => ⟨(‹_ = true → FitL _ ∧ _› (by assumption)).1, by omega, by omega⟩) | exact XObject.wfz | exact WfO.wf (by assumption) | exact ⟨XObject.wfz, .inr rfl⟩ | exact ⟨WfO.wf (by assumption), .inl (List.mem_of_getElem? (by assumption))⟩ | (simp; done)))
      | (refine Som.done (_, _) ?_ ⟨rfl, rfl⟩; (first | trivial | assumption | (intro hh; cases hh; done) | (exact fun hh => ⟨hr hh, by omega⟩) | (exact fun _ => ⟨(‹_ = true → FitL _ ∧ _› (by assumption)).1, by omega, by omega⟩) | exact XObject.wfz | exact WfO.wf (by assumption) | exact ⟨XObject.wfz, .inr rfl⟩ | exact ⟨WfO.wf (by assumption), .inl (List.mem_of_getElem? (by assumption))⟩ | (simp; done)))
      | (simp -implicitDefEqProofs (maxSteps := 4000000) only [go_sem, Nat.reduceAdd, Nat.reduceSub, Nat.reduceMul, Nat.reduceLT, Nat.reduceEqDiff, Nat.reduceLeDiff, Nat.reduceBEq, Int.reduceLE, Int.reduceEq, Int.reduceNe, Int.reduceLT, Int.reduceToNat, reduceCtorEq]))
      all_goals first
        | (refine' Som.turn (k1 + 1, _) ?_ (ih1 _ ?_ ?_); (rotate_left 1); (have hwr := wrap_i64 (x := (k1 : Int) + 1) (by omega) (by omega); (refine Wk.all rfl rfl rfl ?_ rfl ?_ ?_; (repeat (refine AllT.cons (by first | rfl | (simp [lkT, hwr]; done) | (simp -implicitDefEqProofs (maxSteps := 4000000) only [go_sem, Nat.reduceAdd, Nat.reduceSub, Nat.reduceMul, Nat.reduceLT, Nat.reduceEqDiff, Nat.reduceLeDiff, Nat.reduceBEq, Int.reduceLE, Int.reduceEq, Int.reduceNe, Int.reduceLT, Int.reduceToNat, reduceCtorEq]; rfl)) ?_)); exact AllT.nil; (repeat (refine AllB.cons (by first | rfl | (simp [lookN]; done) | (simp -implicitDefEqProofs (maxSteps := 4000000) only [go_sem, Nat.reduceAdd, Nat.reduceSub, Nat.reduceMul, Nat.reduceLT, Nat.reduceEqDiff, Nat.reduceLeDiff, Nat.reduceBEq, Int.reduceLE, Int.reduceEq, Int.reduceNe, Int.reduceLT, Int.reduceToNat, reduceCtorEq]; rfl)) ?_)); exact AllB.nil; simp)); (exact ⟨by first | omega | (simp; done), ⟨_, by (first | rfl | exact own_nil | exact own_snoc | exact own_snocP), by (first | assumption | exact XObject.wfz | exact WfO.wf (by assumption))⟩⟩); (show _ - (k1 + 1) < _ - k1; omega)))

theorem f119_ex (n : Int) : Som (fun _ : Bool => True) (fun r => PureOK Try.prog 119 [.u n] [.b r]) := by
  refine Som.body [] Try.func119 (by rfl) (by simp [Try.f119]) (fun hwf => ?_) (fun _ => ⟨false, by (first | trivial | exact XObject.wfz | exact ⟨XObject.wfz, .inr rfl⟩ | (intro hh; cases hh; done) | (simp; done))⟩)
  simp -implicitDefEqProofs (maxSteps := 4000000) only [go_sem, Nat.reduceAdd, Nat.reduceSub, Nat.reduceMul, Nat.reduceLT, Nat.reduceEqDiff, Nat.reduceLeDiff, Nat.reduceBEq, Int.reduceLE, Int.reduceEq, Int.reduceNe, Int.reduceLT, Int.reduceToNat, reduceCtorEq, Try.f119]
  obtain ⟨hp0, -⟩ := hwf
  have hu0 := (wf_u _).1 hp0
  (repeat' first
      | (refine Som.case (fun h => ?_) (fun h => ?_) <;> (try simp only [decide_eq_true_eq, decide_eq_false_iff_not, beq_iff_eq, beq_eq_false_iff_ne, bne_iff_ne, bne_eq_false_iff_eq, Bool.not_eq_true', Bool.not_eq_false', Bool.false_eq_true, Bool.true_eq_false, reduceCtorEq, ne_eq, Int.not_lt, Int.not_le, Int.ofNat_inj] at h))
      | (refine Som.got (by assumption) ?_)
      | (refine Som.getw (by assumption) (by omega) (fun x hx hxw => ?_))
      | (refine Som.get (by omega) (fun x hx => ?_))
      | (refine Som.and (by first | omega | trivial | assumption | (simp; done) | (simp; omega)) ?_)
      | (refine Som.done _ ?_ (by first | rfl | trivial | assumption); (first | trivial | assumption | (intro hh; cases hh; done) | (exact fun hh => ⟨hr hh, by omega⟩) | (exact fun _ => ⟨(‹_ = true → FitL _ ∧ _› (by assumption)).1, by omega, by omega⟩) | exact XObject.wfz | exact WfO.wf (by assumption) | exact ⟨XObject.wfz, .inr rfl⟩ | exact ⟨WfO.wf (by assumption), .inl (List.mem_of_getElem? (by assumption))⟩ | (simp; done)))
      | (simp -implicitDefEqProofs (maxSteps := 4000000) only [go_sem, Nat.reduceAdd, Nat.reduceSub, Nat.reduceMul, Nat.reduceLT, Nat.reduceEqDiff, Nat.reduceLeDiff, Nat.reduceBEq, Int.reduceLE, Int.reduceEq, Int.reduceNe, Int.reduceLT, Int.reduceToNat, reduceCtorEq]))

theorem f90_ex (o : XObject) : Som (fun _ : Int => True) (fun r => PureOK Try.prog 90 [XObject.enc o] [.i r]) := by
  refine Som.body [] Try.func90 (by rfl) (by simp [Try.f90]) (fun hwf => ?_) (fun _ => ⟨0, by (first | trivial | exact XObject.wfz | exact ⟨XObject.wfz, .inr rfl⟩ | (intro hh; cases hh; done) | (simp; done))⟩)
  simp -implicitDefEqProofs (maxSteps := 4000000) only [go_sem, Nat.reduceAdd, Nat.reduceSub, Nat.reduceMul, Nat.reduceLT, Nat.reduceEqDiff, Nat.reduceLeDiff, Nat.reduceBEq, Int.reduceLE, Int.reduceEq, Int.reduceNe, Int.reduceLT, Int.reduceToNat, reduceCtorEq, Try.f90]
  obtain ⟨hp0, -⟩ := hwf
  have hx0 := XObject.wfs hp0
  (repeat' first
      | (simp -implicitDefEqProofs only [wrap_i64 (x := (k1 : Int) - 1) (by omega) (by omega), toNat_pred]; try simp -implicitDefEqProofs (maxSteps := 4000000) only [go_sem, Nat.reduceAdd, Nat.reduceSub, Nat.reduceMul, Nat.reduceLT, Nat.reduceEqDiff, Nat.reduceLeDiff, Nat.reduceBEq, Int.reduceLE, Int.reduceEq, Int.reduceNe, Int.reduceLT, Int.reduceToNat, reduceCtorEq])
      | (refine Som.case (fun h => ?_) (fun h => ?_) <;> (try simp only [decide_eq_true_eq, decide_eq_false_iff_not, beq_iff_eq, beq_eq_false_iff_ne, bne_iff_ne, bne_eq_false_iff_eq, Bool.not_eq_true', Bool.not_eq_false', Bool.false_eq_true, Bool.true_eq_false, reduceCtorEq, ne_eq, Int.not_lt, Int.not_le, Int.ofNat_inj] at h))
      | (refine Som.got (by assumption) ?_)
      | (refine Som.getw (by assumption) (by omega) (fun x hx hxw => ?_))
      | (refine Som.get (by omega) (fun x hx => ?_))
      | (refine Som.and (by first | omega | trivial | assumption | (simp; done) | (simp; omega)) ?_)
      | (refine Som.done _ ?_ (by first | rfl | trivial | assumption); (first | trivial | assumption | (intro hh; cases hh; done) | (exact fun hh => ⟨hr hh, by omega⟩) | (exact fun _ => ⟨(‹_ = true → FitL _ ∧ _› (by assumption)).1, by omega, by omega⟩) | exact XObject.wfz | exact WfO.wf (by assumption) | exact ⟨XObject.wfz, .inr rfl⟩ | exact ⟨WfO.wf (by assumption), .inl (List.mem_of_getElem? (by assumption))⟩ | (simp; done)))
      | (simp -implicitDefEqProofs (maxSteps := 4000000) only [go_sem, Nat.reduceAdd, Nat.reduceSub, Nat.reduceMul, Nat.reduceLT, Nat.reduceEqDiff, Nat.reduceLeDiff, Nat.reduceBEq, Int.reduceLE, Int.reduceEq, Int.reduceNe, Int.reduceLT, Int.reduceToNat, reduceCtorEq]))

theorem f89_ex (a : XSpan) (b : XSpan) : Som (fun _ : Bool => True) (fun r => PureOK Try.prog 89 [XSpan.enc a, XSpan.enc b] [.b r]) := by
  refine Som.body [] Try.func89 (by rfl) (by simp [Try.f89]) (fun hwf => ?_) (fun _ => ⟨false, by (first | trivial | exact XObject.wfz | exact ⟨XObject.wfz, .inr rfl⟩ | (intro hh; cases hh; done) | (simp; done))⟩)
  simp -implicitDefEqProofs (maxSteps := 4000000) only [go_sem, Nat.reduceAdd, Nat.reduceSub, Nat.reduceMul, Nat.reduceLT, Nat.reduceEqDiff, Nat.reduceLeDiff, Nat.reduceBEq, Int.reduceLE, Int.reduceEq, Int.reduceNe, Int.reduceLT, Int.reduceToNat, reduceCtorEq, Try.f89]
  obtain ⟨hp0, hp1, -⟩ := hwf
  (repeat' first
      | (refine Som.case (fun h => ?_) (fun h => ?_) <;> (try simp only [decide_eq_true_eq, decide_eq_false_iff_not, beq_iff_eq, beq_eq_false_iff_ne, bne_iff_ne, bne_eq_false_iff_eq, Bool.not_eq_true', Bool.not_eq_false', Bool.false_eq_true, Bool.true_eq_false, reduceCtorEq, ne_eq, Int.not_lt, Int.not_le, Int.ofNat_inj] at h))
      | (refine Som.got (by assumption) ?_)
      | (refine Som.getw (by assumption) (by omega) (fun x hx hxw => ?_))
      | (refine Som.get (by omega) (fun x hx => ?_))
      | (refine Som.and (by first | omega | trivial | assumption | (simp; done) | (simp; omega)) ?_)
      | (refine Som.done _ ?_ (by first | rfl | trivial | assumption); (first | trivial | assumption | (intro hh; cases hh; done) | (exact fun hh => ⟨hr hh, by omega⟩) | (exact fun _ => ⟨(‹_ = true → FitL _ ∧ _› (by assumption)).1, by omega, by omega⟩) | exact XObject.wfz | exact WfO.wf (by assumption) | exact ⟨XObject.wfz, .inr rfl⟩ | exact ⟨WfO.wf (by assumption), .inl (List.mem_of_getElem? (by assumption))⟩ | (simp; done)))
      | (simp -implicitDefEqProofs (maxSteps := 4000000) only [go_sem, Nat.reduceAdd, Nat.reduceSub, Nat.reduceMul, Nat.reduceLT, Nat.reduceEqDiff, Nat.reduceLeDiff, Nat.reduceBEq, Int.reduceLE, Int.reduceEq, Int.reduceNe, Int.reduceLT, Int.reduceToNat, reduceCtorEq]))

theorem f156_ex (n : Int) : Som (fun _ : Int => True) (fun r => PureOK Try.prog 156 [.u n] [.u r]) := by
  refine Som.body [] Try.func156 (by rfl) (by simp [Try.f156]) (fun hwf => ?_) (fun _ => ⟨0, by (first | trivial | exact XObject.wfz | exact ⟨XObject.wfz, .inr rfl⟩ | (intro hh; cases hh; done) | (simp; done))⟩)
  simp -implicitDefEqProofs (maxSteps := 4000000) only [go_sem, Nat.reduceAdd, Nat.reduceSub, Nat.reduceMul, Nat.reduceLT, Nat.reduceEqDiff, Nat.reduceLeDiff, Nat.reduceBEq, Int.reduceLE, Int.reduceEq, Int.reduceNe, Int.reduceLT, Int.reduceToNat, reduceCtorEq, Try.f156]
  obtain ⟨hp0, -⟩ := hwf
  have hu0 := (wf_u _).1 hp0
  (repeat' first
      | (refine Som.case (fun h => ?_) (fun h => ?_) <;> (try simp only [decide_eq_true_eq, decide_eq_false_iff_not, beq_iff_eq, beq_eq_false_iff_ne, bne_iff_ne, bne_eq_false_iff_eq, Bool.not_eq_true', Bool.not_eq_false', Bool.false_eq_true, Bool.true_eq_false, reduceCtorEq, ne_eq, Int.not_lt, Int.not_le, Int.ofNat_inj] at h))
      | (refine Som.got (by assumption) ?_)
      | (refine Som.getw (by assumption) (by omega) (fun x hx hxw => ?_))
      | (refine Som.get (by omega) (fun x hx => ?_))
      | (refine Som.and (by first | omega | trivial | assumption | (simp; done) | (simp; omega)) ?_)
      | (refine Som.done _ ?_ (by first | rfl | trivial | assumption); (first | trivial | assumption | (intro hh; cases hh; done) | (exact fun hh => ⟨hr hh, by omega⟩) | (exact fun _ => ⟨(‹_ = true → FitL _ ∧ _› (by assumption)).1, by omega, by omega⟩) | exact XObject.wfz | exact WfO.wf (by assumption) | exact ⟨XObject.wfz, .inr rfl⟩ | exact ⟨WfO.wf (by assumption), .inl (List.mem_of_getElem? (by assumption))⟩ | (simp; done)))
      | (simp -implicitDefEqProofs (maxSteps := 4000000) only [go_sem, Nat.reduceAdd, Nat.reduceSub, Nat.reduceMul, Nat.reduceLT, Nat.reduceEqDiff, Nat.reduceLeDiff, Nat.reduceBEq, Int.reduceLE, Int.reduceEq, Int.reduceNe, Int.reduceLT, Int.reduceToNat, reduceCtorEq]))

theorem f148_ex (a : Int) (b : Int) (c : Int) : Som (fun _ : Int => True) (fun r => PureOK Try.prog 148 [.u a, .u b, .u c] [.u r]) := by
  refine Som.body [] Try.func148 (by rfl) (by simp [Try.f148]) (fun hwf => ?_) (fun _ => ⟨0, by (first | trivial | exact XObject.wfz | exact ⟨XObject.wfz, .inr rfl⟩ | (intro hh; cases hh; done) | (simp; done))⟩)
  simp -implicitDefEqProofs (maxSteps := 4000000) only [go_sem, Nat.reduceAdd, Nat.reduceSub, Nat.reduceMul, Nat.reduceLT, Nat.reduceEqDiff, Nat.reduceLeDiff, Nat.reduceBEq, Int.reduceLE, Int.reduceEq, Int.reduceNe, Int.reduceLT, Int.reduceToNat, reduceCtorEq, Try.f148]
  obtain ⟨hp0, hp1, hp2, -⟩ := hwf
  have hu0 := (wf_u _).1 hp0
  have hu1 := (wf_u _).1 hp1
  have hu2 := (wf_u _).1 hp2
  (repeat' first
      | (refine Som.case (fun h => ?_) (fun h => ?_) <;> (try simp only [decide_eq_true_eq, decide_eq_false_iff_not, beq_iff_eq, beq_eq_false_iff_ne, bne_iff_ne, bne_eq_false_iff_eq, Bool.not_eq_true', Bool.not_eq_false', Bool.false_eq_true, Bool.true_eq_false, reduceCtorEq, ne_eq, Int.not_lt, Int.not_le, Int.ofNat_inj] at h))
      | (refine Som.got (by assumption) ?_)
      | (refine Som.getw (by assumption) (by omega) (fun x hx hxw => ?_))
      | (refine Som.get (by omega) (fun x hx => ?_))
      | (refine Som.and (by first | omega | trivial | assumption | (simp; done) | (simp; omega)) ?_)
      | (refine Som.done _ ?_ (by first | rfl | trivial | assumption); (first | trivial | assumption | (intro hh; cases hh; done) | (exact fun hh => ⟨hr hh, by omega⟩) | (exact fun _ => ⟨(‹_ = true → FitL _ ∧ _› (by assumption)).1, by omega, by omega⟩) | exact XObject.wfz | exact WfO.wf (by assumption) | exact ⟨XObject.wfz, .inr rfl⟩ | exact ⟨WfO.wf (by assumption), .inl (List.mem_of_getElem? (by assumption))⟩ | (simp; done)))
      | (refine Som.call (f156_ex _) (by first | rfl | (simp only [go_sem, Nat.reduceAdd, Nat.reduceSub, Nat.reduceMul, Nat.reduceLT, Nat.reduceEqDiff, Nat.reduceLeDiff, Nat.reduceBEq, Int.reduceLE, Int.reduceEq, Int.reduceNe, Int.reduceLT, Int.reduceToNat, reduceCtorEq]; done)) (fun r hr => ?_); try simp -implicitDefEqProofs (maxSteps := 4000000) only [go_sem, Nat.reduceAdd, Nat.reduceSub, Nat.reduceMul, Nat.reduceLT, Nat.reduceEqDiff, Nat.reduceLeDiff, Nat.reduceBEq, Int.reduceLE, Int.reduceEq, Int.reduceNe, Int.reduceLT, Int.reduceToNat, reduceCtorEq])
      | (refine Som.pcall (f156_ex _) (by first | rfl | (simp only [go_sem, Nat.reduceAdd, Nat.reduceSub, Nat.reduceMul, Nat.reduceLT, Nat.reduceEqDiff, Nat.reduceLeDiff, Nat.reduceBEq, Int.reduceLE, Int.reduceEq, Int.reduceNe, Int.reduceLT, Int.reduceToNat, reduceCtorEq]; done)) (fun r hr => ?_); try simp -implicitDefEqProofs (maxSteps := 4000000) only [go_sem, Nat.reduceAdd, Nat.reduceSub, Nat.reduceMul, Nat.reduceLT, Nat.reduceEqDiff, Nat.reduceLeDiff, Nat.reduceBEq, Int.reduceLE, Int.reduceEq, Int.reduceNe, Int.reduceLT, Int.reduceToNat, reduceCtorEq])
      | (simp -implicitDefEqProofs (maxSteps := 4000000) only [go_sem, Nat.reduceAdd, Nat.reduceSub, Nat.reduceMul, Nat.reduceLT, Nat.reduceEqDiff, Nat.reduceLeDiff, Nat.reduceBEq, Int.reduceLE, Int.reduceEq, Int.reduceNe, Int.reduceLT, Int.reduceToNat, reduceCtorEq]))

theorem f145_ex (a : XSpan) : Som (fun _ : Bool => True) (fun r => PureOK Try.prog 145 [XSpan.enc a] [.b r]) := by
  refine Som.body [] Try.func145 (by rfl) (by simp [Try.f145]) (fun hwf => ?_) (fun _ => ⟨false, by (first | trivial | exact XObject.wfz | exact ⟨XObject.wfz, .inr rfl⟩ | (intro hh; cases hh; done) | (simp; done))⟩)
  simp -implicitDefEqProofs (maxSteps := 4000000) only [go_sem, Nat.reduceAdd, Nat.reduceSub, Nat.reduceMul, Nat.reduceLT, Nat.reduceEqDiff, Nat.reduceLeDiff, Nat.reduceBEq, Int.reduceLE, Int.reduceEq, Int.reduceNe, Int.reduceLT, Int.reduceToNat, reduceCtorEq, Try.f145]
  obtain ⟨hp0, -⟩ := hwf
  (repeat' first
      | (refine Som.case (fun h => ?_) (fun h => ?_) <;> (try simp only [decide_eq_true_eq, decide_eq_false_iff_not, beq_iff_eq, beq_eq_false_iff_ne, bne_iff_ne, bne_eq_false_iff_eq, Bool.not_eq_true', Bool.not_eq_false', Bool.false_eq_true, Bool.true_eq_false, reduceCtorEq, ne_eq, Int.not_lt, Int.not_le, Int.ofNat_inj] at h))
      | (refine Som.got (by assumption) ?_)
      | (refine Som.getw (by assumption) (by omega) (fun x hx hxw => ?_))
      | (refine Som.get (by omega) (fun x hx => ?_))
      | (refine Som.and (by first | omega | trivial | assumption | (simp; done) | (simp; omega)) ?_)
      | (refine Som.done _ ?_ (by first | rfl | trivial | assumption); (first | trivial | assumption | (intro hh; cases hh; done) | (exact fun hh => ⟨hr hh, by omega⟩) | (exact fun _ => ⟨(‹_ = true → FitL _ ∧ _› (by assumption)).1, by omega, by omega⟩) | exact XObject.wfz | exact WfO.wf (by assumption) | exact ⟨XObject.wfz, .inr rfl⟩ | exact ⟨WfO.wf (by assumption), .inl (List.mem_of_getElem? (by assumption))⟩ | (simp; done)))
      | (simp -implicitDefEqProofs (maxSteps := 4000000) only [go_sem, Nat.reduceAdd, Nat.reduceSub, Nat.reduceMul, Nat.reduceLT, Nat.reduceEqDiff, Nat.reduceLeDiff, Nat.reduceBEq, Int.reduceLE, Int.reduceEq, Int.reduceNe, Int.reduceLT, Int.reduceToNat, reduceCtorEq]))

theorem f59_ex (a : List Int) (b : List Int) : Som (fun _ : Bool => True) (fun r => PureOK Try.prog 59 [encL D.u a, encL D.u b] [.b r]) := by
  refine Som.body [] Try.func59 (by rfl) (by simp [Try.f59]) (fun hwf => ?_) (fun _ => ⟨false, by (first | trivial | exact XObject.wfz | exact ⟨XObject.wfz, .inr rfl⟩ | (intro hh; cases hh; done) | (simp; done))⟩)
  simp -implicitDefEqProofs (maxSteps := 4000000) only [go_sem, Nat.reduceAdd, Nat.reduceSub, Nat.reduceMul, Nat.reduceLT, Nat.reduceEqDiff, Nat.reduceLeDiff, Nat.reduceBEq, Int.reduceLE, Int.reduceEq, Int.reduceNe, Int.reduceLT, Int.reduceToNat, reduceCtorEq, Try.f59]
  obtain ⟨hp0, hp1, -⟩ := hwf
  have ⟨hl0, hm0⟩ := (wf_encL _ _).1 hp0
  have ⟨hl1, hm1⟩ := (wf_encL _ _).1 hp1
  (repeat' first
      | (refine Som.case (fun h => ?_) (fun h => ?_) <;> (try simp only [decide_eq_true_eq, decide_eq_false_iff_not, beq_iff_eq, beq_eq_false_iff_ne, bne_iff_ne, bne_eq_false_iff_eq, Bool.not_eq_true', Bool.not_eq_false', Bool.false_eq_true, Bool.true_eq_false, reduceCtorEq, ne_eq, Int.not_lt, Int.not_le, Int.ofNat_inj] at h))
      | (refine Som.got (by assumption) ?_)
      | (refine Som.getw (by assumption) (by omega) (fun x hx hxw => ?_))
      | (refine Som.get (by omega) (fun x hx => ?_))
      | (refine Som.and (by first | omega | trivial | assumption | (simp; done) | (simp; omega)) ?_)
      | (refine Som.done _ ?_ (by first | rfl | trivial | assumption); (first | trivial | assumption | (intro hh; cases hh; done) | (exact fun hh => ⟨hr hh, by omega⟩) | (exact fun _ => ⟨(‹_ = true → FitL _ ∧ _› (by assumption)).1, by omega, by omega⟩) | exact XObject.wfz | exact WfO.wf (by assumption) | exact ⟨XObject.wfz, .inr rfl⟩ | exact ⟨WfO.wf (by assumption), .inl (List.mem_of_getElem? (by assumption))⟩ | (simp; done)))
      | (refine Som.draw (id := 6) [.calm [0, 1, 2, 3, 4, 5, 6, 7, 8]] mixed (by kernel_rfl) ?_; try simp -implicitDefEqProofs (maxSteps := 4000000) only [go_sem, Nat.reduceAdd, Nat.reduceSub, Nat.reduceMul, Nat.reduceLT, Nat.reduceEqDiff, Nat.reduceLeDiff, Nat.reduceBEq, Int.reduceLE, Int.reduceEq, Int.reduceNe, Int.reduceLT, Int.reduceToNat, reduceCtorEq])
      | (simp -implicitDefEqProofs (maxSteps := 4000000) only [go_sem, Nat.reduceAdd, Nat.reduceSub, Nat.reduceMul, Nat.reduceLT, Nat.reduceEqDiff, Nat.reduceLeDiff, Nat.reduceBEq, Int.reduceLE, Int.reduceEq, Int.reduceNe, Int.reduceLT, Int.reduceToNat, reduceCtorEq]))
  all_goals (
      refine' Som.loop (b := .seq (.seq (.region 4 _ _) _) _) (fun x : Nat => { rd := none, n := 26, ts := [(0, .d (encL D.u a)), (1, .d (encL D.u b)), (5, .d (.i x))], sv := [], bx := [], lp := [], ow := [] }) (fun x => x ≤ a.length) (fun x => a.length - x) 0 ?_ ?_ ?_
      (refine Wk.all rfl rfl rfl ?_ rfl ?_ ?_; (repeat (refine AllT.cons (by first | rfl | (simp [lkT]; done) | (simp -implicitDefEqProofs (maxSteps := 4000000) only [go_sem, Nat.reduceAdd, Nat.reduceSub, Nat.reduceMul, Nat.reduceLT, Nat.reduceEqDiff, Nat.reduceLeDiff, Nat.reduceBEq, Int.reduceLE, Int.reduceEq, Int.reduceNe, Int.reduceLT, Int.reduceToNat, reduceCtorEq]; rfl)) ?_)); exact AllT.nil; (repeat (refine AllB.cons (by first | rfl | (simp [lookN]; done) | (simp -implicitDefEqProofs (maxSteps := 4000000) only [go_sem, Nat.reduceAdd, Nat.reduceSub, Nat.reduceMul, Nat.reduceLT, Nat.reduceEqDiff, Nat.reduceLeDiff, Nat.reduceBEq, Int.reduceLE, Int.reduceEq, Int.reduceNe, Int.reduceLT, Int.reduceToNat, reduceCtorEq]; rfl)) ?_)); exact AllB.nil; simp)
      exact (by first | omega | (simp; done))
      rintro T1 k1 hk1 ih1
      simp -implicitDefEqProofs (maxSteps := 4000000) only [go_sem, Nat.reduceAdd, Nat.reduceSub, Nat.reduceMul, Nat.reduceLT, Nat.reduceEqDiff, Nat.reduceLeDiff, Nat.reduceBEq, Int.reduceLE, Int.reduceEq, Int.reduceNe, Int.reduceLT, Int.reduceToNat, reduceCtorEq]
      (repeat' first
      | (refine Som.case (fun h => ?_) (fun h => ?_) <;> (try simp only [decide_eq_true_eq, decide_eq_false_iff_not, beq_iff_eq, beq_eq_false_iff_ne, bne_iff_ne, bne_eq_false_iff_eq, Bool.not_eq_true', Bool.not_eq_false', Bool.false_eq_true, Bool.true_eq_false, reduceCtorEq, ne_eq, Int.not_lt, Int.not_le, Int.ofNat_inj] at h))
      | (refine Som.got (by assumption) ?_)
      | (refine Som.getw (by assumption) (by omega) (fun x hx hxw => ?_))
      | (refine Som.get (by omega) (fun x hx => ?_))
      | (refine Som.and (by first | omega | trivial | assumption | (simp; done) | (simp; omega)) ?_)
      | (refine Som.done _ ?_ (by first | rfl | trivial | assumption); (first | trivial | assumption | (intro hh; cases hh; done) | (exact fun hh => ⟨hr hh, by omega⟩) | (exact fun _ => ⟨(‹_ = true → FitL _ ∧ _› (by assumption)).1, by omega, by omega⟩) | exact XObject.wfz | exact WfO.wf (by assumption) | exact ⟨XObject.wfz, .inr rfl⟩ | exact ⟨WfO.wf (by assumption), .inl (List.mem_of_getElem? (by assumption))⟩ | (simp; done)))
      | (refine Som.draw (id := 6) [.calm [0, 1, 2, 3, 4, 5, 6, 7, 8]] mixed (by kernel_rfl) ?_; try simp -implicitDefEqProofs (maxSteps := 4000000) only [go_sem, Nat.reduceAdd, Nat.reduceSub, Nat.reduceMul, Nat.reduceLT, Nat.reduceEqDiff, Nat.reduceLeDiff, Nat.reduceBEq, Int.reduceLE, Int.reduceEq, Int.reduceNe, Int.reduceLT, Int.reduceToNat, reduceCtorEq])
      | (simp -implicitDefEqProofs (maxSteps := 4000000) only [go_sem, Nat.reduceAdd, Nat.reduceSub, Nat.reduceMul, Nat.reduceLT, Nat.reduceEqDiff, Nat.reduceLeDiff, Nat.reduceBEq, Int.reduceLE, Int.reduceEq, Int.reduceNe, Int.reduceLT, Int.reduceToNat, reduceCtorEq]))
      all_goals first
        | (refine Som.turn (k1 + 1) ?_ (ih1 _ ?_ ?_); (have hwr := wrap_i64 (x := (k1 : Int) + 1) (by omega) (by omega); (refine Wk.all rfl rfl rfl ?_ rfl ?_ ?_; (repeat (refine AllT.cons (by first | rfl | (simp [lkT, hwr]; done) | (simp -implicitDefEqProofs (maxSteps := 4000000) only [go_sem, Nat.reduceAdd, Nat.reduceSub, Nat.reduceMul, Nat.reduceLT, Nat.reduceEqDiff, Nat.reduceLeDiff, Nat.reduceBEq, Int.reduceLE, Int.reduceEq, Int.reduceNe, Int.reduceLT, Int.reduceToNat, reduceCtorEq]; rfl)) ?_)); exact AllT.nil; (repeat (refine AllB.cons (by first | rfl | (simp [lookN]; done) | (simp -implicitDefEqProofs (maxSteps := 4000000) only [go_sem, Nat.reduceAdd, Nat.reduceSub, Nat.reduceMul, Nat.reduceLT, Nat.reduceEqDiff, Nat.reduceLeDiff, Nat.reduceBEq, Int.reduceLE, Int.reduceEq, Int.reduceNe, Int.reduceLT, Int.reduceToNat, reduceCtorEq]; rfl)) ?_)); exact AllB.nil; simp)); (exact (by first | omega | (simp; done))); (show _ - (k1 + 1) < _ - k1; omega)))

theorem f62_ex (a : XGate) (b : XGate) : Som (fun _ : Bool => True) (fun r => PureOK Try.prog 62 [XGate.enc a, XGate.enc b] [.b r]) := by
  refine Som.body [] Try.func62 (by rfl) (by simp [Try.f62]) (fun hwf => ?_) (fun _ => ⟨false, by (first | trivial | exact XObject.wfz | exact ⟨XObject.wfz, .inr rfl⟩ | (intro hh; cases hh; done) | (simp; done))⟩)
  simp -implicitDefEqProofs (maxSteps := 4000000) only [go_sem, Nat.reduceAdd, Nat.reduceSub, Nat.reduceMul, Nat.reduceLT, Nat.reduceEqDiff, Nat.reduceLeDiff, Nat.reduceBEq, Int.reduceLE, Int.reduceEq, Int.reduceNe, Int.reduceLT, Int.reduceToNat, reduceCtorEq, Try.f62]
  obtain ⟨hp0, hp1, -⟩ := hwf
  (repeat' first
      | (refine Som.case (fun h => ?_) (fun h => ?_) <;> (try simp only [decide_eq_true_eq, decide_eq_false_iff_not, beq_iff_eq, beq_eq_false_iff_ne, bne_iff_ne, bne_eq_false_iff_eq, Bool.not_eq_true', Bool.not_eq_false', Bool.false_eq_true, Bool.true_eq_false, reduceCtorEq, ne_eq, Int.not_lt, Int.not_le, Int.ofNat_inj] at h))
      | (refine Som.got (by assumption) ?_)
      | (refine Som.getw (by assumption) (by omega) (fun x hx hxw => ?_))
      | (refine Som.get (by omega) (fun x hx => ?_))
      | (refine Som.and (by first | omega | trivial | assumption | (simp; done) | (simp; omega)) ?_)
      | (refine Som.done _ ?_ (by first | rfl | trivial | assumption); (first | trivial | assumption | (intro hh; cases hh; done) | (exact fun hh => ⟨hr hh, by omega⟩) | (exact fun _ => ⟨(‹_ = true → FitL _ ∧ _› (by assumption)).1, by omega, by omega⟩) | exact XObject.wfz | exact WfO.wf (by assumption) | exact ⟨XObject.wfz, .inr rfl⟩ | exact ⟨WfO.wf (by assumption), .inl (List.mem_of_getElem? (by assumption))⟩ | (simp; done)))
      | (refine Som.callx (f41_ok _ _) (by first | rfl | (simp only [go_sem, Nat.reduceAdd, Nat.reduceSub, Nat.reduceMul, Nat.reduceLT, Nat.reduceEqDiff, Nat.reduceLeDiff, Nat.reduceBEq, Int.reduceLE, Int.reduceEq, Int.reduceNe, Int.reduceLT, Int.reduceToNat, reduceCtorEq]; done)) ?_; try simp -implicitDefEqProofs (maxSteps := 4000000) only [go_sem, Nat.reduceAdd, Nat.reduceSub, Nat.reduceMul, Nat.reduceLT, Nat.reduceEqDiff, Nat.reduceLeDiff, Nat.reduceBEq, Int.reduceLE, Int.reduceEq, Int.reduceNe, Int.reduceLT, Int.reduceToNat, reduceCtorEq])
      | (refine Som.pcallx (f41_ok _ _) (by first | rfl | (simp only [go_sem, Nat.reduceAdd, Nat.reduceSub, Nat.reduceMul, Nat.reduceLT, Nat.reduceEqDiff, Nat.reduceLeDiff, Nat.reduceBEq, Int.reduceLE, Int.reduceEq, Int.reduceNe, Int.reduceLT, Int.reduceToNat, reduceCtorEq]; done)) ?_; try simp -implicitDefEqProofs (maxSteps := 4000000) only [go_sem, Nat.reduceAdd, Nat.reduceSub, Nat.reduceMul, Nat.reduceLT, Nat.reduceEqDiff, Nat.reduceLeDiff, Nat.reduceBEq, Int.reduceLE, Int.reduceEq, Int.reduceNe, Int.reduceLT, Int.reduceToNat, reduceCtorEq])
      | (simp -implicitDefEqProofs (maxSteps := 4000000) only [go_sem, Nat.reduceAdd, Nat.reduceSub, Nat.reduceMul, Nat.reduceLT, Nat.reduceEqDiff, Nat.reduceLeDiff, Nat.reduceBEq, Int.reduceLE, Int.reduceEq, Int.reduceNe, Int.reduceLT, Int.reduceToNat, reduceCtorEq]))

theorem f122_ex (l : List XPair) (hn : l.length ≤ 1000) : Som (fun _ : List Int => True) (fun r => PureOK Try.prog 122 [encL XPair.enc l] [encL D.u r]) := by
  refine Som.body [] Try.func122 (by rfl) (by simp [Try.f122]) (fun hwf => ?_) (fun _ => ⟨[], by (first | trivial | exact XObject.wfz | exact ⟨XObject.wfz, .inr rfl⟩ | (intro hh; cases hh; done) | (simp; done))⟩)
  simp -implicitDefEqProofs (maxSteps := 4000000) only [go_sem, Nat.reduceAdd, Nat.reduceSub, Nat.reduceMul, Nat.reduceLT, Nat.reduceEqDiff, Nat.reduceLeDiff, Nat.reduceBEq, Int.reduceLE, Int.reduceEq, Int.reduceNe, Int.reduceLT, Int.reduceToNat, reduceCtorEq, Try.f122]
  obtain ⟨hp0, -⟩ := hwf
  have ⟨hl0, hm0⟩ := (wf_encL _ _).1 hp0
  (repeat' first
      | (refine Som.case (fun h => ?_) (fun h => ?_) <;> (try simp only [decide_eq_true_eq, decide_eq_false_iff_not, beq_iff_eq, beq_eq_false_iff_ne, bne_iff_ne, bne_eq_false_iff_eq, Bool.not_eq_true', Bool.not_eq_false', Bool.false_eq_true, Bool.true_eq_false, reduceCtorEq, ne_eq, Int.not_lt, Int.not_le, Int.ofNat_inj] at h))
      | (refine Som.got (by assumption) ?_)
      | (refine Som.getw (by assumption) (by omega) (fun x hx hxw => ?_))
      | (refine Som.get (by omega) (fun x hx => ?_))
      | (refine Som.and (by first | omega | trivial | assumption | (simp; done) | (simp; omega)) ?_)
      | (refine Som.done _ ?_ (by first | rfl | trivial | assumption); (first | trivial | assumption | (intro hh; cases hh; done) | (exact fun hh => ⟨hr hh, by omega⟩) | (exact fun _ => ⟨(‹_ = true → FitL _ ∧ _› (by assumption)).1, by omega, by omega⟩) | exact XObject.wfz | exact WfO.wf (by assumption) | exact ⟨XObject.wfz, .inr rfl⟩ | exact ⟨WfO.wf (by assumption), .inl (List.mem_of_getElem? (by assumption))⟩ | (simp; done)))
      | (refine Som.done [] ?_ rfl; (first | trivial | assumption | (intro hh; cases hh; done) | (exact fun hh => ⟨hr hh, by omega⟩) | (exact fun _ => ⟨(‹_ = true → FitL _ ∧ _› (by assumption)).1, by omega, by omega⟩) | exact XObject.wfz | exact WfO.wf (by assumption) | exact ⟨XObject.wfz, .inr rfl⟩ | exact ⟨WfO.wf (by assumption), .inl (List.mem_of_getElem? (by assumption))⟩ | (simp; done)))
      | (simp -implicitDefEqProofs (maxSteps := 4000000) only [go_sem, Nat.reduceAdd, Nat.reduceSub, Nat.reduceMul, Nat.reduceLT, Nat.reduceEqDiff, Nat.reduceLeDiff, Nat.reduceBEq, Int.reduceLE, Int.reduceEq, Int.reduceNe, Int.reduceLT, Int.reduceToNat, reduceCtorEq]))
  all_goals (
      refine' Som.loop (b := .seq (.seq (.region 3 _ _) _) _) (fun x : Nat × V => { rd := none, n := 26, ts := [(0, .d (encL XPair.enc l)), (4, .d (.i x.1)), (3, x.2)], sv := [], bx := [], lp := [], ow := [[3]] }) (fun x => x.1 ≤ l.length ∧ (∃ l : List Int, x.2 = .own [3] 1 (l.map D.u) ∧ l.length ≤ x.1)) (fun x => l.length - x.1) (0, _) ?_ ?_ ?_
      rotate_left 1
      (refine Wk.all rfl rfl rfl ?_ rfl ?_ ?_; (repeat (refine AllT.cons (by first | rfl | (simp [lkT]; done) | (simp -implicitDefEqProofs (maxSteps := 4000000) only [go_sem, Nat.reduceAdd, Nat.reduceSub, Nat.reduceMul, Nat.reduceLT, Nat.reduceEqDiff, Nat.reduceLeDiff, Nat.reduceBEq, Int.reduceLE, Int.reduceEq, Int.reduceNe, Int.reduceLT, Int.reduceToNat, reduceCtorEq]; rfl)) ?_)); exact AllT.nil; (repeat (refine AllB.cons (by first | rfl | (simp [lookN]; done) | (simp -implicitDefEqProofs (maxSteps := 4000000) only [go_sem, Nat.reduceAdd, Nat.reduceSub, Nat.reduceMul, Nat.reduceLT, Nat.reduceEqDiff, Nat.reduceLeDiff, Nat.reduceBEq, Int.reduceLE, Int.reduceEq, Int.reduceNe, Int.reduceLT, Int.reduceToNat, reduceCtorEq]; rfl)) ?_)); exact AllB.nil; simp)
      exact ⟨by first | omega | (simp; done), ⟨_, by (first | rfl | exact own_nil | exact own_snoc | exact own_snocP), by (first | omega | (simp; done) | (simp; omega))⟩⟩
      rintro T1 ⟨k1, v1_1⟩ ⟨hk1, ⟨z1_1, rfl, hz1_1⟩⟩ ih1
      try dsimp only at hk1 hz1_1
      simp -implicitDefEqProofs (maxSteps := 4000000) only [go_sem, Nat.reduceAdd, Nat.reduceSub, Nat.reduceMul, Nat.reduceLT, Nat.reduceEqDiff, Nat.reduceLeDiff, Nat.reduceBEq, Int.reduceLE, Int.reduceEq, Int.reduceNe, Int.reduceLT, Int.reduceToNat, reduceCtorEq]
      (repeat' first
      | (refine Som.case (fun h => ?_) (fun h => ?_) <;> (try simp only [decide_eq_true_eq, decide_eq_false_iff_not, beq_iff_eq, beq_eq_false_iff_ne, bne_iff_ne, bne_eq_false_iff_eq, Bool.not_eq_true', Bool.not_eq_false', Bool.false_eq_true, Bool.true_eq_false, reduceCtorEq, ne_eq, Int.not_lt, Int.not_le, Int.ofNat_inj] at h))
      | (refine Som.got (by assumption) ?_)
      | (refine Som.getw (by assumption) (by omega) (fun x hx hxw => ?_))
      | (refine Som.get (by omega) (fun x hx => ?_))
      | (refine Som.and (by first | omega | trivial | assumption | (simp; done) | (simp; omega)) ?_)
      | (refine Som.done _ ?_ (by first | rfl | trivial | assumption); (first | trivial | assumption | (intro hh; cases hh; done) | (exact fun hh => ⟨hr hh, by omega⟩) | (exact fun _ => ⟨(‹_ = true → FitL _ ∧ _› (by assumption)).1, by omega, by omega⟩) | exact XObject.wfz | exact WfO.wf (by assumption) | exact ⟨XObject.wfz, .inr rfl⟩ | exact ⟨WfO.wf (by assumption), .inl (List.mem_of_getElem? (by assumption))⟩ | (simp; done)))
      | (refine Som.done [] ?_ rfl; (first | trivial | assumption | (intro hh; cases hh; done) | (exact fun hh => ⟨hr hh, by omega⟩) | (exact fun _ => ⟨(‹_ = true → FitL _ ∧ _› (by assumption)).1, by omega, by omega⟩) | exact XObject.wfz | exact WfO.wf (by assumption) | exact ⟨XObject.wfz, .inr rfl⟩ | exact ⟨WfO.wf (by assumption), .inl (List.mem_of_getElem? (by assumption))⟩ | (simp; done)))
      | (simp -implicitDefEqProofs (maxSteps := 4000000) only [go_sem, Nat.reduceAdd, Nat.reduceSub, Nat.reduceMul, Nat.reduceLT, Nat.reduceEqDiff, Nat.reduceLeDiff, Nat.reduceBEq, Int.reduceLE, Int.reduceEq, Int.reduceNe, Int.reduceLT, Int.reduceToNat, reduceCtorEq]))
      all_goals first
        | (refine' Som.turn (k1 + 1, _) ?_ (ih1 _ ?_ ?_); (rotate_left 1); (have hwr := wrap_i64 (x := (k1 : Int) + 1) (by omega) (by omega); (refine Wk.all rfl rfl rfl ?_ rfl ?_ ?_; (repeat (refine AllT.cons (by first | rfl | (simp [lkT, hwr]; done) | (simp -implicitDefEqProofs (maxSteps := 4000000) only [go_sem, Nat.reduceAdd, Nat.reduceSub, Nat.reduceMul, Nat.reduceLT, Nat.reduceEqDiff, Nat.reduceLeDiff, Nat.reduceBEq, Int.reduceLE, Int.reduceEq, Int.reduceNe, Int.reduceLT, Int.reduceToNat, reduceCtorEq]; rfl)) ?_)); exact AllT.nil; (repeat (refine AllB.cons (by first | rfl | (simp [lookN]; done) | (simp -implicitDefEqProofs (maxSteps := 4000000) only [go_sem, Nat.reduceAdd, Nat.reduceSub, Nat.reduceMul, Nat.reduceLT, Nat.reduceEqDiff, Nat.reduceLeDiff, Nat.reduceBEq, Int.reduceLE, Int.reduceEq, Int.reduceNe, Int.reduceLT, Int.reduceToNat, reduceCtorEq]; rfl)) ?_)); exact AllB.nil; simp)); (exact ⟨by first | omega | (simp; done), ⟨_, by (first | rfl | exact own_nil | exact own_snoc | exact own_snocP), by (first | omega | (simp; done) | (simp; omega))⟩⟩); (show _ - (k1 + 1) < _ - k1; omega)))

theorem f144_ex (a : XPagesReach) : Som (fun _ : Bool => True) (fun r => PureOK Try.prog 144 [XPagesReach.enc a] [.b r]) := by
  refine Som.body [] Try.func144 (by rfl) (by simp [Try.f144]) (fun hwf => ?_) (fun _ => ⟨false, by (first | trivial | exact XObject.wfz | exact ⟨XObject.wfz, .inr rfl⟩ | (intro hh; cases hh; done) | (simp; done))⟩)
  simp -implicitDefEqProofs (maxSteps := 4000000) only [go_sem, Nat.reduceAdd, Nat.reduceSub, Nat.reduceMul, Nat.reduceLT, Nat.reduceEqDiff, Nat.reduceLeDiff, Nat.reduceBEq, Int.reduceLE, Int.reduceEq, Int.reduceNe, Int.reduceLT, Int.reduceToNat, reduceCtorEq, Try.f144]
  obtain ⟨hp0, -⟩ := hwf
  (repeat' first
      | (refine Som.case (fun h => ?_) (fun h => ?_) <;> (try simp only [decide_eq_true_eq, decide_eq_false_iff_not, beq_iff_eq, beq_eq_false_iff_ne, bne_iff_ne, bne_eq_false_iff_eq, Bool.not_eq_true', Bool.not_eq_false', Bool.false_eq_true, Bool.true_eq_false, reduceCtorEq, ne_eq, Int.not_lt, Int.not_le, Int.ofNat_inj] at h))
      | (refine Som.got (by assumption) ?_)
      | (refine Som.getw (by assumption) (by omega) (fun x hx hxw => ?_))
      | (refine Som.get (by omega) (fun x hx => ?_))
      | (refine Som.and (by first | omega | trivial | assumption | (simp; done) | (simp; omega)) ?_)
      | (refine Som.done _ ?_ (by first | rfl | trivial | assumption); (first | trivial | assumption | (intro hh; cases hh; done) | (exact fun hh => ⟨hr hh, by omega⟩) | (exact fun _ => ⟨(‹_ = true → FitL _ ∧ _› (by assumption)).1, by omega, by omega⟩) | exact XObject.wfz | exact WfO.wf (by assumption) | exact ⟨XObject.wfz, .inr rfl⟩ | exact ⟨WfO.wf (by assumption), .inl (List.mem_of_getElem? (by assumption))⟩ | (simp; done)))
      | (simp -implicitDefEqProofs (maxSteps := 4000000) only [go_sem, Nat.reduceAdd, Nat.reduceSub, Nat.reduceMul, Nat.reduceLT, Nat.reduceEqDiff, Nat.reduceLeDiff, Nat.reduceBEq, Int.reduceLE, Int.reduceEq, Int.reduceNe, Int.reduceLT, Int.reduceToNat, reduceCtorEq]))

theorem f60_ex (a : List XPagesReach) (b : List XPagesReach) : Som (fun _ : Bool => True) (fun r => PureOK Try.prog 60 [encL XPagesReach.enc a, encL XPagesReach.enc b] [.b r]) := by
  refine Som.body [] Try.func60 (by rfl) (by simp [Try.f60]) (fun hwf => ?_) (fun _ => ⟨false, by (first | trivial | exact XObject.wfz | exact ⟨XObject.wfz, .inr rfl⟩ | (intro hh; cases hh; done) | (simp; done))⟩)
  simp -implicitDefEqProofs (maxSteps := 4000000) only [go_sem, Nat.reduceAdd, Nat.reduceSub, Nat.reduceMul, Nat.reduceLT, Nat.reduceEqDiff, Nat.reduceLeDiff, Nat.reduceBEq, Int.reduceLE, Int.reduceEq, Int.reduceNe, Int.reduceLT, Int.reduceToNat, reduceCtorEq, Try.f60]
  obtain ⟨hp0, hp1, -⟩ := hwf
  have ⟨hl0, hm0⟩ := (wf_encL _ _).1 hp0
  have ⟨hl1, hm1⟩ := (wf_encL _ _).1 hp1
  (repeat' first
      | (refine Som.case (fun h => ?_) (fun h => ?_) <;> (try simp only [decide_eq_true_eq, decide_eq_false_iff_not, beq_iff_eq, beq_eq_false_iff_ne, bne_iff_ne, bne_eq_false_iff_eq, Bool.not_eq_true', Bool.not_eq_false', Bool.false_eq_true, Bool.true_eq_false, reduceCtorEq, ne_eq, Int.not_lt, Int.not_le, Int.ofNat_inj] at h))
      | (refine Som.got (by assumption) ?_)
      | (refine Som.getw (by assumption) (by omega) (fun x hx hxw => ?_))
      | (refine Som.get (by omega) (fun x hx => ?_))
      | (refine Som.and (by first | omega | trivial | assumption | (simp; done) | (simp; omega)) ?_)
      | (refine Som.done _ ?_ (by first | rfl | trivial | assumption); (first | trivial | assumption | (intro hh; cases hh; done) | (exact fun hh => ⟨hr hh, by omega⟩) | (exact fun _ => ⟨(‹_ = true → FitL _ ∧ _› (by assumption)).1, by omega, by omega⟩) | exact XObject.wfz | exact WfO.wf (by assumption) | exact ⟨XObject.wfz, .inr rfl⟩ | exact ⟨WfO.wf (by assumption), .inl (List.mem_of_getElem? (by assumption))⟩ | (simp; done)))
      | (refine Som.draw (id := 6) [.calm [0, 1, 2, 3, 4, 5, 6, 7, 8]] mixed (by kernel_rfl) ?_; try simp -implicitDefEqProofs (maxSteps := 4000000) only [go_sem, Nat.reduceAdd, Nat.reduceSub, Nat.reduceMul, Nat.reduceLT, Nat.reduceEqDiff, Nat.reduceLeDiff, Nat.reduceBEq, Int.reduceLE, Int.reduceEq, Int.reduceNe, Int.reduceLT, Int.reduceToNat, reduceCtorEq])
      | (simp -implicitDefEqProofs (maxSteps := 4000000) only [go_sem, Nat.reduceAdd, Nat.reduceSub, Nat.reduceMul, Nat.reduceLT, Nat.reduceEqDiff, Nat.reduceLeDiff, Nat.reduceBEq, Int.reduceLE, Int.reduceEq, Int.reduceNe, Int.reduceLT, Int.reduceToNat, reduceCtorEq]))
  all_goals (
      refine' Som.loop (b := .seq (.seq (.region 4 _ _) _) _) (fun x : Nat => { rd := none, n := 26, ts := [(0, .d (encL XPagesReach.enc a)), (1, .d (encL XPagesReach.enc b)), (5, .d (.i x))], sv := [], bx := [], lp := [], ow := [] }) (fun x => x ≤ a.length) (fun x => a.length - x) 0 ?_ ?_ ?_
      (refine Wk.all rfl rfl rfl ?_ rfl ?_ ?_; (repeat (refine AllT.cons (by first | rfl | (simp [lkT]; done) | (simp -implicitDefEqProofs (maxSteps := 4000000) only [go_sem, Nat.reduceAdd, Nat.reduceSub, Nat.reduceMul, Nat.reduceLT, Nat.reduceEqDiff, Nat.reduceLeDiff, Nat.reduceBEq, Int.reduceLE, Int.reduceEq, Int.reduceNe, Int.reduceLT, Int.reduceToNat, reduceCtorEq]; rfl)) ?_)); exact AllT.nil; (repeat (refine AllB.cons (by first | rfl | (simp [lookN]; done) | (simp -implicitDefEqProofs (maxSteps := 4000000) only [go_sem, Nat.reduceAdd, Nat.reduceSub, Nat.reduceMul, Nat.reduceLT, Nat.reduceEqDiff, Nat.reduceLeDiff, Nat.reduceBEq, Int.reduceLE, Int.reduceEq, Int.reduceNe, Int.reduceLT, Int.reduceToNat, reduceCtorEq]; rfl)) ?_)); exact AllB.nil; simp)
      exact (by first | omega | (simp; done))
      rintro T1 k1 hk1 ih1
      simp -implicitDefEqProofs (maxSteps := 4000000) only [go_sem, Nat.reduceAdd, Nat.reduceSub, Nat.reduceMul, Nat.reduceLT, Nat.reduceEqDiff, Nat.reduceLeDiff, Nat.reduceBEq, Int.reduceLE, Int.reduceEq, Int.reduceNe, Int.reduceLT, Int.reduceToNat, reduceCtorEq]
      (repeat' first
      | (refine Som.case (fun h => ?_) (fun h => ?_) <;> (try simp only [decide_eq_true_eq, decide_eq_false_iff_not, beq_iff_eq, beq_eq_false_iff_ne, bne_iff_ne, bne_eq_false_iff_eq, Bool.not_eq_true', Bool.not_eq_false', Bool.false_eq_true, Bool.true_eq_false, reduceCtorEq, ne_eq, Int.not_lt, Int.not_le, Int.ofNat_inj] at h))
      | (refine Som.got (by assumption) ?_)
      | (refine Som.getw (by assumption) (by omega) (fun x hx hxw => ?_))
      | (refine Som.get (by omega) (fun x hx => ?_))
      | (refine Som.and (by first | omega | trivial | assumption | (simp; done) | (simp; omega)) ?_)
      | (refine Som.done _ ?_ (by first | rfl | trivial | assumption); (first | trivial | assumption | (intro hh; cases hh; done) | (exact fun hh => ⟨hr hh, by omega⟩) | (exact fun _ => ⟨(‹_ = true → FitL _ ∧ _› (by assumption)).1, by omega, by omega⟩) | exact XObject.wfz | exact WfO.wf (by assumption) | exact ⟨XObject.wfz, .inr rfl⟩ | exact ⟨WfO.wf (by assumption), .inl (List.mem_of_getElem? (by assumption))⟩ | (simp; done)))
      | (refine Som.draw (id := 6) [.calm [0, 1, 2, 3, 4, 5, 6, 7, 8]] mixed (by kernel_rfl) ?_; try simp -implicitDefEqProofs (maxSteps := 4000000) only [go_sem, Nat.reduceAdd, Nat.reduceSub, Nat.reduceMul, Nat.reduceLT, Nat.reduceEqDiff, Nat.reduceLeDiff, Nat.reduceBEq, Int.reduceLE, Int.reduceEq, Int.reduceNe, Int.reduceLT, Int.reduceToNat, reduceCtorEq])
      | (simp -implicitDefEqProofs (maxSteps := 4000000) only [go_sem, Nat.reduceAdd, Nat.reduceSub, Nat.reduceMul, Nat.reduceLT, Nat.reduceEqDiff, Nat.reduceLeDiff, Nat.reduceBEq, Int.reduceLE, Int.reduceEq, Int.reduceNe, Int.reduceLT, Int.reduceToNat, reduceCtorEq]))
      all_goals first
        | (refine Som.turn (k1 + 1) ?_ (ih1 _ ?_ ?_); (have hwr := wrap_i64 (x := (k1 : Int) + 1) (by omega) (by omega); (refine Wk.all rfl rfl rfl ?_ rfl ?_ ?_; (repeat (refine AllT.cons (by first | rfl | (simp [lkT, hwr]; done) | (simp -implicitDefEqProofs (maxSteps := 4000000) only [go_sem, Nat.reduceAdd, Nat.reduceSub, Nat.reduceMul, Nat.reduceLT, Nat.reduceEqDiff, Nat.reduceLeDiff, Nat.reduceBEq, Int.reduceLE, Int.reduceEq, Int.reduceNe, Int.reduceLT, Int.reduceToNat, reduceCtorEq]; rfl)) ?_)); exact AllT.nil; (repeat (refine AllB.cons (by first | rfl | (simp [lookN]; done) | (simp -implicitDefEqProofs (maxSteps := 4000000) only [go_sem, Nat.reduceAdd, Nat.reduceSub, Nat.reduceMul, Nat.reduceLT, Nat.reduceEqDiff, Nat.reduceLeDiff, Nat.reduceBEq, Int.reduceLE, Int.reduceEq, Int.reduceNe, Int.reduceLT, Int.reduceToNat, reduceCtorEq]; rfl)) ?_)); exact AllB.nil; simp)); (exact (by first | omega | (simp; done))); (show _ - (k1 + 1) < _ - k1; omega)))

end Go.Proofs.Ytijkiddfobojaaa
