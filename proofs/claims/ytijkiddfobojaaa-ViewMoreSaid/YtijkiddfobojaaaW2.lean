import Derived.Test.YtijkiddfobojaaaT8
import Derived.Test.YtijkiddfobojaaaAbS
namespace Go.Proofs.Ytijkiddfobojaaa
set_option linter.all false
set_option linter.unusedSimpArgs false
set_option linter.unusedVariables false
set_option maxRecDepth 20000
set_option maxHeartbeats 2000000
open Go Go.Ab Go.Proofs
theorem take_succ_eq {α : Type} {a b : List α} {k : Nat} {x : α} (h : a.take k = b.take k) (ha : a[k]? = some x) (hb : b[k]? = some x) : a.take (k + 1) = b.take (k + 1) := by
  rw [List.take_succ, List.take_succ, h, ha, hb]
theorem take_succ_eq' {α : Type} {a b : List α} {k : Nat} {x y : α} (h : a.take k = b.take k) (ha : a[k]? = some x) (hb : b[k]? = some y) (e : x = y) : a.take (k + 1) = b.take (k + 1) := take_succ_eq h ha (e ▸ hb)
theorem ne_of_get {α : Type} {a b : List α} {k : Nat} {x y : α} (ha : a[k]? = some x) (hb : b[k]? = some y) (h : x ≠ y) : a ≠ b := by
  rintro rfl
  rw [ha] at hb; cases hb; exact h rfl
theorem XPair.eqb {x y : XPair} : (x.cat == y.cat && x.lev == y.lev) = true ↔ x = y := by
  cases x; cases y; simp
theorem XPagesReach.eqb {x y : XPagesReach} : (x.va == y.va && (x.n == y.n && (x.cont == y.cont && (x.seg == y.seg && (x.off == y.off && x.write == y.write))))) = true ↔ x = y := by
  cases x; cases y; simp
theorem iff_f {p : Prop} (h : ¬ p) : (false = true ↔ p) := ⟨fun e => (nomatch e), fun e => absurd e h⟩
theorem iff_t {p : Prop} (h : p) : (true = true ↔ p) := ⟨fun _ => h, fun _ => rfl⟩
theorem ex_iff (p : Prop) : ∃ r : Bool, (r = true ↔ p) := by
  by_cases h : p
  · exact ⟨true, iff_t h⟩
  · exact ⟨false, iff_f h⟩
theorem eqf {b : Bool} {p : Prop} (h : b = true ↔ p) (hb : b = false) : ¬ p := fun hp => by rw [h.2 hp] at hb; cases hb

theorem f101_ex (a b : List Int) : Som (fun r : Bool => r = true ↔ a = b) (fun r => PureOK Try.prog 101 [encL D.u a, encL D.u b] [.b r]) := by
  refine Som.body [] Try.func101 (by rfl) (by simp [Try.f101]) (fun hwf => ?_) (fun _ => ex_iff _)
  simp -implicitDefEqProofs (maxSteps := 4000000) only [go_sem, Nat.reduceAdd, Nat.reduceSub, Nat.reduceMul, Nat.reduceLT, Nat.reduceEqDiff, Nat.reduceLeDiff, Nat.reduceBEq, Int.reduceLE, Int.reduceEq, Int.reduceNe, Int.reduceLT, Int.reduceToNat, reduceCtorEq, Try.f101]
  obtain ⟨hp0, hp1, -⟩ := hwf
  have ⟨hl0, hm0⟩ := (wf_encL _ _).1 hp0
  refine Som.case (fun h => ?_) (fun h => ?_) <;> simp only [bne_iff_ne, bne_eq_false_iff_eq, ne_eq, Int.ofNat_inj] at h
  · exact Som.done false (iff_f fun e => h (by rw [e])) rfl
  refine Som.loop (fun k : Nat => { rd := none, n := 26, ts := [(0, .d (encL D.u a)), (1, .d (encL D.u b)), (11, .d (encL D.u a)), (12, .d (.i a.length)), (13, .d (.i k))], sv := [], bx := [], lp := [], ow := [] }) (fun k => k ≤ a.length ∧ a.take k = b.take k) (fun k => a.length - k) 0 ?_ ⟨by omega, by simp⟩ ?_
  · (refine Wk.all rfl rfl rfl ?_ rfl ?_ ?_; (repeat (refine AllT.cons (by first | rfl | (simp [lkT]; done) | (simp -implicitDefEqProofs (maxSteps := 4000000) only [go_sem, Nat.reduceAdd, Nat.reduceSub, Nat.reduceMul, Nat.reduceLT, Nat.reduceEqDiff, Nat.reduceLeDiff, Nat.reduceBEq, Int.reduceLE, Int.reduceEq, Int.reduceNe, Int.reduceLT, Int.reduceToNat, reduceCtorEq]; rfl)) ?_)); exact AllT.nil; (repeat (refine AllB.cons (by first | rfl | (simp [lookN]; done) | (simp -implicitDefEqProofs (maxSteps := 4000000) only [go_sem, Nat.reduceAdd, Nat.reduceSub, Nat.reduceMul, Nat.reduceLT, Nat.reduceEqDiff, Nat.reduceLeDiff, Nat.reduceBEq, Int.reduceLE, Int.reduceEq, Int.reduceNe, Int.reduceLT, Int.reduceToNat, reduceCtorEq]; rfl)) ?_)); exact AllB.nil; simp)
  rintro T1 k1 ⟨hk1, hf⟩ ih1
  simp -implicitDefEqProofs (maxSteps := 4000000) only [go_sem, Nat.reduceAdd, Nat.reduceSub, Nat.reduceMul, Nat.reduceLT, Nat.reduceEqDiff, Nat.reduceLeDiff, Nat.reduceBEq, Int.reduceLE, Int.reduceEq, Int.reduceNe, Int.reduceLT, Int.reduceToNat, reduceCtorEq]
  (repeat' first
      | (refine Som.case (fun h => ?_) (fun h => ?_) <;> (try simp only [decide_eq_true_eq, decide_eq_false_iff_not, beq_iff_eq, beq_eq_false_iff_ne, bne_iff_ne, bne_eq_false_iff_eq, Bool.not_eq_true', Bool.not_eq_false', Bool.false_eq_true, Bool.true_eq_false, reduceCtorEq, ne_eq, Int.not_lt, Int.not_le, Int.ofNat_inj] at h))
      | (refine Som.got (by assumption) ?_)
      | (refine Som.getw (by assumption) (by omega) (fun x hx hxw => ?_))
      | (refine Som.get (by omega) (fun x hx => ?_))
      | (refine Som.and (by first | omega | trivial | assumption | (simp; done) | (simp; omega)) ?_)
      | (refine Som.done _ ?_ (by first | rfl | trivial | assumption); (first | trivial | assumption | (intro hh; cases hh; done) | (exact fun hh => ⟨hr hh, by omega⟩) | (exact fun _ => ⟨(‹_ = true → FitL _ ∧ _› (by assumption)).1, by omega, by omega⟩) | exact XObject.wfz | exact WfO.wf (by assumption) | exact ⟨XObject.wfz, .inr rfl⟩ | exact ⟨WfO.wf (by assumption), .inl (List.mem_of_getElem? (by assumption))⟩ | (simp; done)))
      | (refine Som.draw (id := 6) [.calm [0, 1, 2, 3, 4, 5, 6, 7, 8]] mixed (by kernel_rfl) ?_; try simp -implicitDefEqProofs (maxSteps := 4000000) only [go_sem, Nat.reduceAdd, Nat.reduceSub, Nat.reduceMul, Nat.reduceLT, Nat.reduceEqDiff, Nat.reduceLeDiff, Nat.reduceBEq, Int.reduceLE, Int.reduceEq, Int.reduceNe, Int.reduceLT, Int.reduceToNat, reduceCtorEq])
      | (simp -implicitDefEqProofs (maxSteps := 4000000) only [go_sem, Nat.reduceAdd, Nat.reduceSub, Nat.reduceMul, Nat.reduceLT, Nat.reduceEqDiff, Nat.reduceLeDiff, Nat.reduceBEq, Int.reduceLE, Int.reduceEq, Int.reduceNe, Int.reduceLT, Int.reduceToNat, reduceCtorEq]))
  all_goals first
    | (refine Som.turn (k1 + 1) ?_ (ih1 _ ?_ ?_); (have hwr := wrap_i64 (x := (k1 : Int) + 1) (by omega) (by omega); (refine Wk.all rfl rfl rfl ?_ rfl ?_ ?_; (repeat (refine AllT.cons (by first | rfl | (simp [lkT, hwr]; done) | (simp -implicitDefEqProofs (maxSteps := 4000000) only [go_sem, Nat.reduceAdd, Nat.reduceSub, Nat.reduceMul, Nat.reduceLT, Nat.reduceEqDiff, Nat.reduceLeDiff, Nat.reduceBEq, Int.reduceLE, Int.reduceEq, Int.reduceNe, Int.reduceLT, Int.reduceToNat, reduceCtorEq]; rfl)) ?_)); exact AllT.nil; (repeat (refine AllB.cons (by first | rfl | (simp [lookN]; done) | (simp -implicitDefEqProofs (maxSteps := 4000000) only [go_sem, Nat.reduceAdd, Nat.reduceSub, Nat.reduceMul, Nat.reduceLT, Nat.reduceEqDiff, Nat.reduceLeDiff, Nat.reduceBEq, Int.reduceLE, Int.reduceEq, Int.reduceNe, Int.reduceLT, Int.reduceToNat, reduceCtorEq]; rfl)) ?_)); exact AllB.nil; simp)); (exact ⟨by omega, take_succ_eq' hf (‹a[k1]? = some _›) (‹b[k1]? = some _›) (by assumption)⟩); (show _ - (k1 + 1) < _ - k1; omega))
    | (refine Som.done true (iff_t ?_) rfl; rw [List.take_of_length_le (by omega), List.take_of_length_le (by omega)] at hf; exact hf)
    | (refine Som.done false (iff_f (ne_of_get (‹a[k1]? = some _›) (‹b[k1]? = some _›) (by assumption))) rfl)
    | trace_state
theorem f129_ex (a b : List XPair) : Som (fun r : Bool => r = true ↔ a = b) (fun r => PureOK Try.prog 129 [encL XPair.enc a, encL XPair.enc b] [.b r]) := by
  refine Som.body [] Try.func129 (by rfl) (by simp [Try.f129]) (fun hwf => ?_) (fun _ => ex_iff _)
  simp -implicitDefEqProofs (maxSteps := 4000000) only [go_sem, Nat.reduceAdd, Nat.reduceSub, Nat.reduceMul, Nat.reduceLT, Nat.reduceEqDiff, Nat.reduceLeDiff, Nat.reduceBEq, Int.reduceLE, Int.reduceEq, Int.reduceNe, Int.reduceLT, Int.reduceToNat, reduceCtorEq, Try.f129]
  obtain ⟨hp0, hp1, -⟩ := hwf
  have ⟨hl0, hm0⟩ := (wf_encL _ _).1 hp0
  refine Som.case (fun h => ?_) (fun h => ?_) <;> simp only [bne_iff_ne, bne_eq_false_iff_eq, ne_eq, Int.ofNat_inj] at h
  · exact Som.done false (iff_f fun e => h (by rw [e])) rfl
  refine Som.loop (fun k : Nat => { rd := none, n := 26, ts := [(0, .d (encL XPair.enc a)), (1, .d (encL XPair.enc b)), (11, .d (encL XPair.enc a)), (12, .d (.i a.length)), (13, .d (.i k))], sv := [], bx := [], lp := [], ow := [] }) (fun k => k ≤ a.length ∧ a.take k = b.take k) (fun k => a.length - k) 0 ?_ ⟨by omega, by simp⟩ ?_
  · (refine Wk.all rfl rfl rfl ?_ rfl ?_ ?_; (repeat (refine AllT.cons (by first | rfl | (simp [lkT]; done) | (simp -implicitDefEqProofs (maxSteps := 4000000) only [go_sem, Nat.reduceAdd, Nat.reduceSub, Nat.reduceMul, Nat.reduceLT, Nat.reduceEqDiff, Nat.reduceLeDiff, Nat.reduceBEq, Int.reduceLE, Int.reduceEq, Int.reduceNe, Int.reduceLT, Int.reduceToNat, reduceCtorEq]; rfl)) ?_)); exact AllT.nil; (repeat (refine AllB.cons (by first | rfl | (simp [lookN]; done) | (simp -implicitDefEqProofs (maxSteps := 4000000) only [go_sem, Nat.reduceAdd, Nat.reduceSub, Nat.reduceMul, Nat.reduceLT, Nat.reduceEqDiff, Nat.reduceLeDiff, Nat.reduceBEq, Int.reduceLE, Int.reduceEq, Int.reduceNe, Int.reduceLT, Int.reduceToNat, reduceCtorEq]; rfl)) ?_)); exact AllB.nil; simp)
  rintro T1 k1 ⟨hk1, hf⟩ ih1
  simp -implicitDefEqProofs (maxSteps := 4000000) only [go_sem, Nat.reduceAdd, Nat.reduceSub, Nat.reduceMul, Nat.reduceLT, Nat.reduceEqDiff, Nat.reduceLeDiff, Nat.reduceBEq, Int.reduceLE, Int.reduceEq, Int.reduceNe, Int.reduceLT, Int.reduceToNat, reduceCtorEq, XPair.agg, takeD]
  (repeat' first
      | (refine Som.case (fun h => ?_) (fun h => ?_) <;> (try simp only [decide_eq_true_eq, decide_eq_false_iff_not, beq_iff_eq, beq_eq_false_iff_ne, bne_iff_ne, bne_eq_false_iff_eq, Bool.not_eq_true', Bool.not_eq_false', Bool.false_eq_true, Bool.true_eq_false, reduceCtorEq, ne_eq, Int.not_lt, Int.not_le, Int.ofNat_inj] at h))
      | (refine Som.got (by assumption) ?_)
      | (refine Som.getw (by assumption) (by omega) (fun x hx hxw => ?_))
      | (refine Som.get (by omega) (fun x hx => ?_))
      | (refine Som.and (by first | omega | trivial | assumption | (simp; done) | (simp; omega)) ?_)
      | (refine Som.done _ ?_ (by first | rfl | trivial | assumption); (first | trivial | assumption | (intro hh; cases hh; done) | (exact fun hh => ⟨hr hh, by omega⟩) | (exact fun _ => ⟨(‹_ = true → FitL _ ∧ _› (by assumption)).1, by omega, by omega⟩) | exact XObject.wfz | exact WfO.wf (by assumption) | exact ⟨XObject.wfz, .inr rfl⟩ | exact ⟨WfO.wf (by assumption), .inl (List.mem_of_getElem? (by assumption))⟩ | (simp; done)))
      | (refine Som.draw (id := 6) [.calm [0, 1, 2, 3, 4, 5, 6, 7, 8]] mixed (by kernel_rfl) ?_; try simp -implicitDefEqProofs (maxSteps := 4000000) only [go_sem, Nat.reduceAdd, Nat.reduceSub, Nat.reduceMul, Nat.reduceLT, Nat.reduceEqDiff, Nat.reduceLeDiff, Nat.reduceBEq, Int.reduceLE, Int.reduceEq, Int.reduceNe, Int.reduceLT, Int.reduceToNat, reduceCtorEq, XPair.agg, takeD])
      | (simp -implicitDefEqProofs (maxSteps := 4000000) only [go_sem, Nat.reduceAdd, Nat.reduceSub, Nat.reduceMul, Nat.reduceLT, Nat.reduceEqDiff, Nat.reduceLeDiff, Nat.reduceBEq, Int.reduceLE, Int.reduceEq, Int.reduceNe, Int.reduceLT, Int.reduceToNat, reduceCtorEq, XPair.agg, takeD]))
  all_goals first
    | (refine Som.turn (k1 + 1) ?_ (ih1 _ ?_ ?_); (have hwr := wrap_i64 (x := (k1 : Int) + 1) (by omega) (by omega); (refine Wk.all rfl rfl rfl ?_ rfl ?_ ?_; (repeat (refine AllT.cons (by first | rfl | (simp [lkT, hwr]; done) | (simp -implicitDefEqProofs (maxSteps := 4000000) only [go_sem, Nat.reduceAdd, Nat.reduceSub, Nat.reduceMul, Nat.reduceLT, Nat.reduceEqDiff, Nat.reduceLeDiff, Nat.reduceBEq, Int.reduceLE, Int.reduceEq, Int.reduceNe, Int.reduceLT, Int.reduceToNat, reduceCtorEq]; rfl)) ?_)); exact AllT.nil; (repeat (refine AllB.cons (by first | rfl | (simp [lookN]; done) | (simp -implicitDefEqProofs (maxSteps := 4000000) only [go_sem, Nat.reduceAdd, Nat.reduceSub, Nat.reduceMul, Nat.reduceLT, Nat.reduceEqDiff, Nat.reduceLeDiff, Nat.reduceBEq, Int.reduceLE, Int.reduceEq, Int.reduceNe, Int.reduceLT, Int.reduceToNat, reduceCtorEq]; rfl)) ?_)); exact AllB.nil; simp)); (exact ⟨by omega, take_succ_eq' hf (‹a[k1]? = some _›) (‹b[k1]? = some _›) (XPair.eqb.1 (by assumption))⟩); (show _ - (k1 + 1) < _ - k1; omega))
    | (refine Som.done true (iff_t ?_) rfl; rw [List.take_of_length_le (by omega), List.take_of_length_le (by omega)] at hf; exact hf)
    | (refine Som.done false (iff_f (ne_of_get (‹a[k1]? = some _›) (‹b[k1]? = some _›) (eqf XPair.eqb (by assumption)))) rfl)
    | trace_state
theorem f130_ex (a b : List XPagesReach) : Som (fun r : Bool => r = true ↔ a = b) (fun r => PureOK Try.prog 130 [encL XPagesReach.enc a, encL XPagesReach.enc b] [.b r]) := by
  refine Som.body [] Try.func130 (by rfl) (by simp [Try.f130]) (fun hwf => ?_) (fun _ => ex_iff _)
  simp -implicitDefEqProofs (maxSteps := 4000000) only [go_sem, Nat.reduceAdd, Nat.reduceSub, Nat.reduceMul, Nat.reduceLT, Nat.reduceEqDiff, Nat.reduceLeDiff, Nat.reduceBEq, Int.reduceLE, Int.reduceEq, Int.reduceNe, Int.reduceLT, Int.reduceToNat, reduceCtorEq, Try.f130]
  obtain ⟨hp0, hp1, -⟩ := hwf
  have ⟨hl0, hm0⟩ := (wf_encL _ _).1 hp0
  refine Som.case (fun h => ?_) (fun h => ?_) <;> simp only [bne_iff_ne, bne_eq_false_iff_eq, ne_eq, Int.ofNat_inj] at h
  · exact Som.done false (iff_f fun e => h (by rw [e])) rfl
  refine Som.loop (fun k : Nat => { rd := none, n := 26, ts := [(0, .d (encL XPagesReach.enc a)), (1, .d (encL XPagesReach.enc b)), (11, .d (encL XPagesReach.enc a)), (12, .d (.i a.length)), (13, .d (.i k))], sv := [], bx := [], lp := [], ow := [] }) (fun k => k ≤ a.length ∧ a.take k = b.take k) (fun k => a.length - k) 0 ?_ ⟨by omega, by simp⟩ ?_
  · (refine Wk.all rfl rfl rfl ?_ rfl ?_ ?_; (repeat (refine AllT.cons (by first | rfl | (simp [lkT]; done) | (simp -implicitDefEqProofs (maxSteps := 4000000) only [go_sem, Nat.reduceAdd, Nat.reduceSub, Nat.reduceMul, Nat.reduceLT, Nat.reduceEqDiff, Nat.reduceLeDiff, Nat.reduceBEq, Int.reduceLE, Int.reduceEq, Int.reduceNe, Int.reduceLT, Int.reduceToNat, reduceCtorEq]; rfl)) ?_)); exact AllT.nil; (repeat (refine AllB.cons (by first | rfl | (simp [lookN]; done) | (simp -implicitDefEqProofs (maxSteps := 4000000) only [go_sem, Nat.reduceAdd, Nat.reduceSub, Nat.reduceMul, Nat.reduceLT, Nat.reduceEqDiff, Nat.reduceLeDiff, Nat.reduceBEq, Int.reduceLE, Int.reduceEq, Int.reduceNe, Int.reduceLT, Int.reduceToNat, reduceCtorEq]; rfl)) ?_)); exact AllB.nil; simp)
  rintro T1 k1 ⟨hk1, hf⟩ ih1
  simp -implicitDefEqProofs (maxSteps := 4000000) only [go_sem, Nat.reduceAdd, Nat.reduceSub, Nat.reduceMul, Nat.reduceLT, Nat.reduceEqDiff, Nat.reduceLeDiff, Nat.reduceBEq, Int.reduceLE, Int.reduceEq, Int.reduceNe, Int.reduceLT, Int.reduceToNat, reduceCtorEq, XPagesReach.agg, takeD]
  (repeat' first
      | (refine Som.case (fun h => ?_) (fun h => ?_) <;> (try simp only [decide_eq_true_eq, decide_eq_false_iff_not, beq_iff_eq, beq_eq_false_iff_ne, bne_iff_ne, bne_eq_false_iff_eq, Bool.not_eq_true', Bool.not_eq_false', Bool.false_eq_true, Bool.true_eq_false, reduceCtorEq, ne_eq, Int.not_lt, Int.not_le, Int.ofNat_inj] at h))
      | (refine Som.got (by assumption) ?_)
      | (refine Som.getw (by assumption) (by omega) (fun x hx hxw => ?_))
      | (refine Som.get (by omega) (fun x hx => ?_))
      | (refine Som.and (by first | omega | trivial | assumption | (simp; done) | (simp; omega)) ?_)
      | (refine Som.done _ ?_ (by first | rfl | trivial | assumption); (first | trivial | assumption | (intro hh; cases hh; done) | (exact fun hh => ⟨hr hh, by omega⟩) | (exact fun _ => ⟨(‹_ = true → FitL _ ∧ _› (by assumption)).1, by omega, by omega⟩) | exact XObject.wfz | exact WfO.wf (by assumption) | exact ⟨XObject.wfz, .inr rfl⟩ | exact ⟨WfO.wf (by assumption), .inl (List.mem_of_getElem? (by assumption))⟩ | (simp; done)))
      | (refine Som.draw (id := 6) [.calm [0, 1, 2, 3, 4, 5, 6, 7, 8]] mixed (by kernel_rfl) ?_; try simp -implicitDefEqProofs (maxSteps := 4000000) only [go_sem, Nat.reduceAdd, Nat.reduceSub, Nat.reduceMul, Nat.reduceLT, Nat.reduceEqDiff, Nat.reduceLeDiff, Nat.reduceBEq, Int.reduceLE, Int.reduceEq, Int.reduceNe, Int.reduceLT, Int.reduceToNat, reduceCtorEq, XPagesReach.agg, takeD])
      | (simp -implicitDefEqProofs (maxSteps := 4000000) only [go_sem, Nat.reduceAdd, Nat.reduceSub, Nat.reduceMul, Nat.reduceLT, Nat.reduceEqDiff, Nat.reduceLeDiff, Nat.reduceBEq, Int.reduceLE, Int.reduceEq, Int.reduceNe, Int.reduceLT, Int.reduceToNat, reduceCtorEq, XPagesReach.agg, takeD]))
  all_goals first
    | (refine Som.turn (k1 + 1) ?_ (ih1 _ ?_ ?_); (have hwr := wrap_i64 (x := (k1 : Int) + 1) (by omega) (by omega); (refine Wk.all rfl rfl rfl ?_ rfl ?_ ?_; (repeat (refine AllT.cons (by first | rfl | (simp [lkT, hwr]; done) | (simp -implicitDefEqProofs (maxSteps := 4000000) only [go_sem, Nat.reduceAdd, Nat.reduceSub, Nat.reduceMul, Nat.reduceLT, Nat.reduceEqDiff, Nat.reduceLeDiff, Nat.reduceBEq, Int.reduceLE, Int.reduceEq, Int.reduceNe, Int.reduceLT, Int.reduceToNat, reduceCtorEq]; rfl)) ?_)); exact AllT.nil; (repeat (refine AllB.cons (by first | rfl | (simp [lookN]; done) | (simp -implicitDefEqProofs (maxSteps := 4000000) only [go_sem, Nat.reduceAdd, Nat.reduceSub, Nat.reduceMul, Nat.reduceLT, Nat.reduceEqDiff, Nat.reduceLeDiff, Nat.reduceBEq, Int.reduceLE, Int.reduceEq, Int.reduceNe, Int.reduceLT, Int.reduceToNat, reduceCtorEq]; rfl)) ?_)); exact AllB.nil; simp)); (exact ⟨by omega, take_succ_eq' hf (‹a[k1]? = some _›) (‹b[k1]? = some _›) (XPagesReach.eqb.1 (by assumption))⟩); (show _ - (k1 + 1) < _ - k1; omega))
    | (refine Som.done true (iff_t ?_) rfl; rw [List.take_of_length_le (by omega), List.take_of_length_le (by omega)] at hf; exact hf)
    | (refine Som.done false (iff_f (ne_of_get (‹a[k1]? = some _›) (‹b[k1]? = some _›) (eqf XPagesReach.eqb (by assumption)))) rfl)
    | trace_state
end Go.Proofs.Ytijkiddfobojaaa
