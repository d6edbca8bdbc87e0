import Derived.Test.YtijkiddfobojaaaW7
namespace Go.Proofs.Ytijkiddfobojaaa
set_option linter.all false
set_option linter.unusedSimpArgs false
set_option linter.unusedVariables false
set_option maxRecDepth 20000
set_option maxHeartbeats 2000000
open Go Go.Ab Go.Proofs
/-- The ids that stand in containers that are seen. -/
def listedIds (os : List XObject) (l : List XPair) : List Int := (os.filter (seenO · l)).flatMap (·.links)
def hideO (o : XObject) : XObject := { headO o with kind := IntKind.i64.wrap (0 - o.kind) }
def showO (H : List Int) (l : List XPair) (o : XObject) : Option XObject := if seenO o l then some o else if o.id ∈ H then some (hideO o) else none
def ofObjs (w : XWorld) (l : List XPair) : List XObject := w.objects.filterMap (showO (listedIds w.objects l) l)
/-- What an observer sees of a world. -/
def ofW (w : XWorld) (l : List XPair) : XWorld := { w with objects := ofObjs w l }
def MapIs (kvs : List (Int × Value)) (H : List Int) : Prop := ∀ a, getKV a kvs = if a ∈ H then some (.bool true) else none
theorem getKV_put (a b : Int) (c : Value) (kvs : List (Int × Value)) : getKV a (putKV b c kvs) = if a = b then some c else getKV a kvs := by
  induction kvs with
  | nil => simp only [putKV, getKV]
  | cons x kvs ih =>
    obtain ⟨d, e⟩ := x
    simp only [putKV]
    split
    · rename_i h; subst h
      simp only [getKV]
      split <;> simp_all
    · rename_i h
      simp only [getKV, ih]
      split
      · rename_i h2; subst h2; rw [if_neg (Ne.symm h)]
      · rfl
theorem MapIs.nil : MapIs [] [] := fun a => by simp [getKV]
theorem MapIs.put {kvs : List (Int × Value)} {H : List Int} (h : MapIs kvs H) (b : Int) : MapIs (putKV b (.bool true) kvs) (H ++ [b]) := fun a => by
  rw [getKV_put, h a]
  by_cases e : a = b
  · simp [e]
  · by_cases e2 : a ∈ H <;> simp [e, e2]
theorem listedIds_snoc {os : List XObject} {l : List XPair} {k : Nat} {x : XObject} (h : os[k]? = some x) : listedIds (os.take (k + 1)) l = listedIds (os.take k) l ++ (if seenO x l then x.links else []) := by
  rw [List.take_succ, h]
  simp only [listedIds, Option.toList_some, List.filter_append, List.flatMap_append]
  by_cases hs : seenO x l <;> simp [hs]
theorem headO_id (o : XObject) : (headO o).id = o.id := rfl
theorem headO_kind (o : XObject) : (headO o).kind = o.kind := rfl
theorem f37_ok (w : XWorld) (l : List XPair) (hn : w.objects.length ≤ 1000) (hl : l.length ≤ 1000) (hw : ∀ o ∈ w.objects, o.label.length ≤ 1000) : PureOK Try.prog 37 [XWorld.enc w, encL XPair.enc l] [XWorld.enc (ofW w l)] := by
  refine PureOK.of_som (out := fun r => [XWorld.enc r]) ?_
  refine Som.body [] Try.func37 (by rfl) (by simp [Try.f37]) (fun hwf => ?_) (fun _ => ⟨_, rfl⟩)
  simp -implicitDefEqProofs (maxSteps := 4000000) only [go_sem, Nat.reduceAdd, Nat.reduceSub, Nat.reduceMul, Nat.reduceLT, Nat.reduceEqDiff, Nat.reduceLeDiff, Nat.reduceBEq, Int.reduceLE, Int.reduceEq, Int.reduceNe, Int.reduceLT, Int.reduceToNat, reduceCtorEq, Try.f37]
  obtain ⟨hp0, hp1, -⟩ := hwf
  have ⟨hl0, ho0⟩ := XWorld.wfs hp0
  refine Som.imp (fun r h => TCall_enter [66] Try.func66 (by rfl) (by simp [Try.f66]) h) ?_
  simp -implicitDefEqProofs (maxSteps := 4000000) only [go_sem, Nat.reduceAdd, Nat.reduceSub, Nat.reduceMul, Nat.reduceLT, Nat.reduceEqDiff, Nat.reduceLeDiff, Nat.reduceBEq, Int.reduceLE, Int.reduceEq, Int.reduceNe, Int.reduceLT, Int.reduceToNat, reduceCtorEq, Try.f66]
  refine Som.imp (fun r h => TCall_enter [65] Try.func65 (by rfl) (by simp [Try.f65]) h) ?_
  simp -implicitDefEqProofs (maxSteps := 4000000) only [go_sem, Nat.reduceAdd, Nat.reduceSub, Nat.reduceMul, Nat.reduceLT, Nat.reduceEqDiff, Nat.reduceLeDiff, Nat.reduceBEq, Int.reduceLE, Int.reduceEq, Int.reduceNe, Int.reduceLT, Int.reduceToNat, reduceCtorEq, Try.f65]
  refine Som.imp (fun r h => TCall_enter [91] Try.func91 (by rfl) (by simp [Try.f91]) h) ?_
  simp -implicitDefEqProofs (maxSteps := 4000000) only [go_sem, Nat.reduceAdd, Nat.reduceSub, Nat.reduceMul, Nat.reduceLT, Nat.reduceEqDiff, Nat.reduceLeDiff, Nat.reduceBEq, Int.reduceLE, Int.reduceEq, Int.reduceNe, Int.reduceLT, Int.reduceToNat, reduceCtorEq, Try.f91]
  refine Som.imp (fun r h => TC_rangeFunc [1000] [92] rfl (by simp [rds]) (by simp [lookN]) (by simp -implicitDefEqProofs (maxSteps := 4000000) only [go_sem, Nat.reduceAdd, Nat.reduceSub, Nat.reduceMul, Nat.reduceLT, Nat.reduceEqDiff, Nat.reduceLeDiff, Nat.reduceBEq, Int.reduceLE, Int.reduceEq, Int.reduceNe, Int.reduceLT, Int.reduceToNat, reduceCtorEq]) (by simp -implicitDefEqProofs (maxSteps := 4000000) only [go_sem, Nat.reduceAdd, Nat.reduceSub, Nat.reduceMul, Nat.reduceLT, Nat.reduceEqDiff, Nat.reduceLeDiff, Nat.reduceBEq, Int.reduceLE, Int.reduceEq, Int.reduceNe, Int.reduceLT, Int.reduceToNat, reduceCtorEq]; rfl) (by simp -implicitDefEqProofs (maxSteps := 4000000) only [go_sem, Nat.reduceAdd, Nat.reduceSub, Nat.reduceMul, Nat.reduceLT, Nat.reduceEqDiff, Nat.reduceLeDiff, Nat.reduceBEq, Int.reduceLE, Int.reduceEq, Int.reduceNe, Int.reduceLT, Int.reduceToNat, reduceCtorEq]) (by kernel_rfl) Try.func92 (by rfl) (by simp [Try.f92]) h) ?_
  simp -implicitDefEqProofs (maxSteps := 4000000) only [go_sem, Nat.reduceAdd, Nat.reduceSub, Nat.reduceMul, Nat.reduceLT, Nat.reduceEqDiff, Nat.reduceLeDiff, Nat.reduceBEq, Int.reduceLE, Int.reduceEq, Int.reduceNe, Int.reduceLT, Int.reduceToNat, reduceCtorEq, Try.f92]
  refine Som.imp (fun r h => TCall_enter [93] Try.func93 (by rfl) (by simp [Try.f93]) h) ?_
  simp -implicitDefEqProofs (maxSteps := 4000000) only [go_sem, Nat.reduceAdd, Nat.reduceSub, Nat.reduceMul, Nat.reduceLT, Nat.reduceEqDiff, Nat.reduceLeDiff, Nat.reduceBEq, Int.reduceLE, Int.reduceEq, Int.reduceNe, Int.reduceLT, Int.reduceToNat, reduceCtorEq, Try.f93]
  refine Som.loopL (fun x : Nat × List (Int × Value) => ([(1, .ptr [1, 93] 0), (3, .mref [8, 93]), (11, .d (encL XObject.enc w.objects)), (12, .d (.i w.objects.length)), (13, .d (.i x.1))], [([8, 93], .mpc .u64 x.2), ([1, 93], .d (.agg [D.i w.time, D.u w.key, D.u w.root, encL XObject.enc w.objects, encL XPair.enc l])), ([2, 91], .own [1000000, 2, 91] 51 []), ([1, 66], .d (.agg [D.i w.time, D.u w.key, D.u w.root, encL XObject.enc w.objects, encL XPair.enc l])), ([5], .d (.agg [D.i w.time, D.u w.key, D.u w.root, encL XObject.enc w.objects, encL XPair.enc l])), ([4], .d (XWorld.enc XWorld.zero)), ([2], .d (XWorld.enc w))])) (fun x => x.1 ≤ w.objects.length ∧ MapIs x.2 (listedIds (w.objects.take x.1) l)) (fun x => w.objects.length - x.1) (0, []) ?_ ⟨by omega, by simpa [listedIds] using MapIs.nil⟩ ?_
  · (refine Wk.all rfl rfl rfl ?_ rfl ?_ ?_; (repeat (refine AllT.cons (by first | rfl | (simp [lkT]; done) | (simp -implicitDefEqProofs (maxSteps := 4000000) only [go_sem, Nat.reduceAdd, Nat.reduceSub, Nat.reduceMul, Nat.reduceLT, Nat.reduceEqDiff, Nat.reduceLeDiff, Nat.reduceBEq, Int.reduceLE, Int.reduceEq, Int.reduceNe, Int.reduceLT, Int.reduceToNat, reduceCtorEq]; rfl)) ?_)); exact AllT.nil; (repeat (refine AllB.cons (by first | rfl | (simp [lookN]; done) | (simp -implicitDefEqProofs (maxSteps := 4000000) only [go_sem, Nat.reduceAdd, Nat.reduceSub, Nat.reduceMul, Nat.reduceLT, Nat.reduceEqDiff, Nat.reduceLeDiff, Nat.reduceBEq, Int.reduceLE, Int.reduceEq, Int.reduceNe, Int.reduceLT, Int.reduceToNat, reduceCtorEq]; rfl)) ?_)); exact AllB.nil; simp)
  rintro T1 ⟨k1, kvs⟩ ⟨hk1, hm⟩ ih1
  dsimp only at hk1 hm
  simp -implicitDefEqProofs (maxSteps := 4000000) only [go_sem, Nat.reduceAdd, Nat.reduceSub, Nat.reduceMul, Nat.reduceLT, Nat.reduceEqDiff, Nat.reduceLeDiff, Nat.reduceBEq, Int.reduceLE, Int.reduceEq, Int.reduceNe, Int.reduceLT, Int.reduceToNat, reduceCtorEq]
  (repeat' first
      | (refine Som.case (fun h => ?_) (fun h => ?_) <;> (try simp only [decide_eq_true_eq, decide_eq_false_iff_not, beq_iff_eq, beq_eq_false_iff_ne, bne_iff_ne, bne_eq_false_iff_eq, Bool.not_eq_true', Bool.not_eq_false', Bool.false_eq_true, Bool.true_eq_false, reduceCtorEq, ne_eq, Int.not_lt, Int.not_le, Int.ofNat_inj] at h))
      | (refine Som.got (by assumption) ?_)
      | (refine Som.getw (by assumption) (by omega) (fun x hx hxw => ?_))
      | (refine Som.get (by omega) (fun x hx => ?_))
      | (refine Som.and (by first | omega | trivial | assumption | (simp; done) | (simp; omega)) ?_)
      | (refine Som.done _ ?_ (by first | rfl | trivial | assumption); (first | trivial | assumption | (intro hh; cases hh; done) | (exact fun hh => ⟨hr hh, by omega⟩) | (exact fun _ => ⟨(‹_ = true → FitL _ ∧ _› (by assumption)).1, by omega, by omega⟩) | exact XObject.wfz | exact WfO.wf (by assumption) | exact ⟨XObject.wfz, .inr rfl⟩ | exact ⟨WfO.wf (by assumption), .inl (List.mem_of_getElem? (by assumption))⟩ | (simp; done)))
      | (refine Som.callx (f13_ok _ _ ?_ ?_) (by first | rfl | (simp only [go_sem, Nat.reduceAdd, Nat.reduceSub, Nat.reduceMul, Nat.reduceLT, Nat.reduceEqDiff, Nat.reduceLeDiff, Nat.reduceBEq, Int.reduceLE, Int.reduceEq, Int.reduceNe, Int.reduceLT, Int.reduceToNat, reduceCtorEq]; done)) ?_; (first | omega | assumption | exact lab_of hr hw | exact lab_in hw (by assumption) | exact hw | (simp; done) | (simp; omega)); (first | omega | assumption | exact lab_of hr hw | exact lab_in hw (by assumption) | exact hw | (simp; done) | (simp; omega)); try simp -implicitDefEqProofs (maxSteps := 4000000) only [go_sem, Nat.reduceAdd, Nat.reduceSub, Nat.reduceMul, Nat.reduceLT, Nat.reduceEqDiff, Nat.reduceLeDiff, Nat.reduceBEq, Int.reduceLE, Int.reduceEq, Int.reduceNe, Int.reduceLT, Int.reduceToNat, reduceCtorEq])
      | (refine Som.pcallx (f13_ok _ _ ?_ ?_) (by first | rfl | (simp only [go_sem, Nat.reduceAdd, Nat.reduceSub, Nat.reduceMul, Nat.reduceLT, Nat.reduceEqDiff, Nat.reduceLeDiff, Nat.reduceBEq, Int.reduceLE, Int.reduceEq, Int.reduceNe, Int.reduceLT, Int.reduceToNat, reduceCtorEq]; done)) ?_; (first | omega | assumption | exact lab_of hr hw | exact lab_in hw (by assumption) | exact hw | (simp; done) | (simp; omega)); (first | omega | assumption | exact lab_of hr hw | exact lab_in hw (by assumption) | exact hw | (simp; done) | (simp; omega)); try simp -implicitDefEqProofs (maxSteps := 4000000) only [go_sem, Nat.reduceAdd, Nat.reduceSub, Nat.reduceMul, Nat.reduceLT, Nat.reduceEqDiff, Nat.reduceLeDiff, Nat.reduceBEq, Int.reduceLE, Int.reduceEq, Int.reduceNe, Int.reduceLT, Int.reduceToNat, reduceCtorEq])
      | (simp -implicitDefEqProofs (maxSteps := 4000000) only [go_sem, Nat.reduceAdd, Nat.reduceSub, Nat.reduceMul, Nat.reduceLT, Nat.reduceEqDiff, Nat.reduceLeDiff, Nat.reduceBEq, Int.reduceLE, Int.reduceEq, Int.reduceNe, Int.reduceLT, Int.reduceToNat, reduceCtorEq]))
  · refine Som.callx (f13_ok x l (by have := lab_in hw hx; omega) (by omega)) (by simp -implicitDefEqProofs (maxSteps := 4000000) only [go_sem, Nat.reduceAdd, Nat.reduceSub, Nat.reduceMul, Nat.reduceLT, Nat.reduceEqDiff, Nat.reduceLeDiff, Nat.reduceBEq, Int.reduceLE, Int.reduceEq, Int.reduceNe, Int.reduceLT, Int.reduceToNat, reduceCtorEq]) ?_
    simp -implicitDefEqProofs (maxSteps := 4000000) only [go_sem, Nat.reduceAdd, Nat.reduceSub, Nat.reduceMul, Nat.reduceLT, Nat.reduceEqDiff, Nat.reduceLeDiff, Nat.reduceBEq, Int.reduceLE, Int.reduceEq, Int.reduceNe, Int.reduceLT, Int.reduceToNat, reduceCtorEq]
    have hwr := wrap_i64 (x := (k1 : Int) + 1) (by omega) (by omega)
    refine Som.case (fun hs => ?_) (fun hs => ?_)
    · try simp -implicitDefEqProofs (maxSteps := 4000000) only [go_sem, Nat.reduceAdd, Nat.reduceSub, Nat.reduceMul, Nat.reduceLT, Nat.reduceEqDiff, Nat.reduceLeDiff, Nat.reduceBEq, Int.reduceLE, Int.reduceEq, Int.reduceNe, Int.reduceLT, Int.reduceToNat, reduceCtorEq]
      refine Som.loopL (fun z : Nat × List (Int × Value) => ([(1, .ptr [1, 93] 0), (3, .mref [8, 93]), (11, .d (encL XObject.enc w.objects)), (12, .d (.i w.objects.length)), (13, .d (.i k1)), (22, .d (encL D.u x.links)), (23, .d (.i x.links.length)), (24, .d (.i z.1))], [([8, 93], .mpc .u64 z.2), ([1, 93], .d (.agg [D.i w.time, D.u w.key, D.u w.root, encL XObject.enc w.objects, encL XPair.enc l])), ([2, 91], .own [1000000, 2, 91] 51 []), ([1, 66], .d (.agg [D.i w.time, D.u w.key, D.u w.root, encL XObject.enc w.objects, encL XPair.enc l])), ([5], .d (.agg [D.i w.time, D.u w.key, D.u w.root, encL XObject.enc w.objects, encL XPair.enc l])), ([4], .d (XWorld.enc XWorld.zero)), ([2], .d (XWorld.enc w))])) (fun z => z.1 ≤ x.links.length ∧ MapIs z.2 (listedIds (w.objects.take k1) l ++ x.links.take z.1)) (fun z => x.links.length - z.1) (0, kvs) ?_ ⟨by omega, by simpa using hm⟩ ?_
      · (refine Wk.all rfl rfl rfl ?_ rfl ?_ ?_; (repeat (refine AllT.cons (by first | rfl | (simp [lkT]; done) | (simp -implicitDefEqProofs (maxSteps := 4000000) only [go_sem, Nat.reduceAdd, Nat.reduceSub, Nat.reduceMul, Nat.reduceLT, Nat.reduceEqDiff, Nat.reduceLeDiff, Nat.reduceBEq, Int.reduceLE, Int.reduceEq, Int.reduceNe, Int.reduceLT, Int.reduceToNat, reduceCtorEq]; rfl)) ?_)); exact AllT.nil; (repeat (refine AllB.cons (by first | rfl | (simp [lookN]; done) | (simp -implicitDefEqProofs (maxSteps := 4000000) only [go_sem, Nat.reduceAdd, Nat.reduceSub, Nat.reduceMul, Nat.reduceLT, Nat.reduceEqDiff, Nat.reduceLeDiff, Nat.reduceBEq, Int.reduceLE, Int.reduceEq, Int.reduceNe, Int.reduceLT, Int.reduceToNat, reduceCtorEq]; rfl)) ?_)); exact AllB.nil; simp)
      rintro T2 ⟨k2, kvs2⟩ ⟨hk2, hm2⟩ ih2
      dsimp only at hk2 hm2
      simp -implicitDefEqProofs (maxSteps := 4000000) only [go_sem, Nat.reduceAdd, Nat.reduceSub, Nat.reduceMul, Nat.reduceLT, Nat.reduceEqDiff, Nat.reduceLeDiff, Nat.reduceBEq, Int.reduceLE, Int.reduceEq, Int.reduceNe, Int.reduceLT, Int.reduceToNat, reduceCtorEq]
      refine Som.case (fun h2 => ?_) (fun h2 => ?_) <;> simp only [decide_eq_true_eq, decide_eq_false_iff_not] at h2
      · try simp -implicitDefEqProofs (maxSteps := 4000000) only [go_sem, Nat.reduceAdd, Nat.reduceSub, Nat.reduceMul, Nat.reduceLT, Nat.reduceEqDiff, Nat.reduceLeDiff, Nat.reduceBEq, Int.reduceLE, Int.reduceEq, Int.reduceNe, Int.reduceLT, Int.reduceToNat, reduceCtorEq]
        refine Som.and (by omega) ?_
        refine Som.get (by omega) (fun y hy => ?_)
        try simp -implicitDefEqProofs (maxSteps := 4000000) only [go_sem, Nat.reduceAdd, Nat.reduceSub, Nat.reduceMul, Nat.reduceLT, Nat.reduceEqDiff, Nat.reduceLeDiff, Nat.reduceBEq, Int.reduceLE, Int.reduceEq, Int.reduceNe, Int.reduceLT, Int.reduceToNat, reduceCtorEq]
        have hwr2 := wrap_i64 (x := (k2 : Int) + 1) (by omega) (by omega)
        refine Som.turn (k2 + 1, putKV y (.bool true) kvs2) ?_ (ih2 _ ⟨by dsimp only; omega, ?_⟩ ?_)
        · (refine Wk.all rfl rfl rfl ?_ rfl ?_ ?_; (repeat (refine AllT.cons (by first | rfl | (simp [lkT, hwr2]; done) | (simp -implicitDefEqProofs (maxSteps := 4000000) only [go_sem, Nat.reduceAdd, Nat.reduceSub, Nat.reduceMul, Nat.reduceLT, Nat.reduceEqDiff, Nat.reduceLeDiff, Nat.reduceBEq, Int.reduceLE, Int.reduceEq, Int.reduceNe, Int.reduceLT, Int.reduceToNat, reduceCtorEq]; rfl)) ?_)); exact AllT.nil; (repeat (refine AllB.cons (by first | rfl | (simp [lookN]; done) | (simp -implicitDefEqProofs (maxSteps := 4000000) only [go_sem, Nat.reduceAdd, Nat.reduceSub, Nat.reduceMul, Nat.reduceLT, Nat.reduceEqDiff, Nat.reduceLeDiff, Nat.reduceBEq, Int.reduceLE, Int.reduceEq, Int.reduceNe, Int.reduceLT, Int.reduceToNat, reduceCtorEq]; rfl)) ?_)); exact AllB.nil; simp)
        · dsimp only
          have e : x.links.take (k2 + 1) = x.links.take k2 ++ [y] := by rw [List.take_succ, hy]; rfl
          rw [e, ← List.append_assoc]; exact hm2.put y
        · show x.links.length - (k2 + 1) < x.links.length - k2; omega
      · try simp -implicitDefEqProofs (maxSteps := 4000000) only [go_sem, Nat.reduceAdd, Nat.reduceSub, Nat.reduceMul, Nat.reduceLT, Nat.reduceEqDiff, Nat.reduceLeDiff, Nat.reduceBEq, Int.reduceLE, Int.reduceEq, Int.reduceNe, Int.reduceLT, Int.reduceToNat, reduceCtorEq]
        refine Som.turn (k1 + 1, kvs2) ?_ (ih1 _ ⟨by dsimp only; omega, ?_⟩ ?_)
        · (refine Wk.all rfl rfl rfl ?_ rfl ?_ ?_; (repeat (refine AllT.cons (by first | rfl | (simp [lkT, hwr]; done) | (simp -implicitDefEqProofs (maxSteps := 4000000) only [go_sem, Nat.reduceAdd, Nat.reduceSub, Nat.reduceMul, Nat.reduceLT, Nat.reduceEqDiff, Nat.reduceLeDiff, Nat.reduceBEq, Int.reduceLE, Int.reduceEq, Int.reduceNe, Int.reduceLT, Int.reduceToNat, reduceCtorEq]; rfl)) ?_)); exact AllT.nil; (repeat (refine AllB.cons (by first | rfl | (simp [lookN]; done) | (simp -implicitDefEqProofs (maxSteps := 4000000) only [go_sem, Nat.reduceAdd, Nat.reduceSub, Nat.reduceMul, Nat.reduceLT, Nat.reduceEqDiff, Nat.reduceLeDiff, Nat.reduceBEq, Int.reduceLE, Int.reduceEq, Int.reduceNe, Int.reduceLT, Int.reduceToNat, reduceCtorEq]; rfl)) ?_)); exact AllB.nil; simp)
        · dsimp only
          rw [listedIds_snoc hx, if_pos hs]
          have e : x.links.take k2 = x.links := List.take_of_length_le (by omega)
          rw [e] at hm2; exact hm2
        · show w.objects.length - (k1 + 1) < w.objects.length - k1; omega
    · try simp -implicitDefEqProofs (maxSteps := 4000000) only [go_sem, Nat.reduceAdd, Nat.reduceSub, Nat.reduceMul, Nat.reduceLT, Nat.reduceEqDiff, Nat.reduceLeDiff, Nat.reduceBEq, Int.reduceLE, Int.reduceEq, Int.reduceNe, Int.reduceLT, Int.reduceToNat, reduceCtorEq]
      refine Som.turn (k1 + 1, kvs) ?_ (ih1 _ ⟨by dsimp only; omega, ?_⟩ ?_)
      · (refine Wk.all rfl rfl rfl ?_ rfl ?_ ?_; (repeat (refine AllT.cons (by first | rfl | (simp [lkT, hwr]; done) | (simp -implicitDefEqProofs (maxSteps := 4000000) only [go_sem, Nat.reduceAdd, Nat.reduceSub, Nat.reduceMul, Nat.reduceLT, Nat.reduceEqDiff, Nat.reduceLeDiff, Nat.reduceBEq, Int.reduceLE, Int.reduceEq, Int.reduceNe, Int.reduceLT, Int.reduceToNat, reduceCtorEq]; rfl)) ?_)); exact AllT.nil; (repeat (refine AllB.cons (by first | rfl | (simp [lookN]; done) | (simp -implicitDefEqProofs (maxSteps := 4000000) only [go_sem, Nat.reduceAdd, Nat.reduceSub, Nat.reduceMul, Nat.reduceLT, Nat.reduceEqDiff, Nat.reduceLeDiff, Nat.reduceBEq, Int.reduceLE, Int.reduceEq, Int.reduceNe, Int.reduceLT, Int.reduceToNat, reduceCtorEq]; rfl)) ?_)); exact AllB.nil; simp)
      · dsimp only
        rw [listedIds_snoc hx, if_neg (by simp [hs])]; simpa using hm
      · show w.objects.length - (k1 + 1) < w.objects.length - k1; omega
  rw [List.take_of_length_le (by omega)] at hm
  clear ih1 T1 hk1
  generalize hH : listedIds w.objects l = H at hm
  refine Som.loopL (fun x : Nat × List XObject => ([(0, .yld [1000]), (1, .ptr [1, 66] 0), (3, .mref [8, 93]), (11, .d (encL XObject.enc w.objects)), (12, .d (.i w.objects.length)), (13, .d (.i x.1))], [([8, 93], .mpc .u64 kvs), ([2, 91], .own [1000000, 2, 91] 51 (x.2.map XObject.enc)), ([1, 66], .d (.agg [D.i w.time, D.u w.key, D.u w.root, encL XObject.enc w.objects, encL XPair.enc l])), ([5], .d (.agg [D.i w.time, D.u w.key, D.u w.root, encL XObject.enc w.objects, encL XPair.enc l])), ([4], .d (XWorld.enc XWorld.zero)), ([2], .d (XWorld.enc w))])) (fun x => x.1 ≤ w.objects.length ∧ x.2 = (w.objects.take x.1).filterMap (showO H l) ∧ x.2.length ≤ x.1) (fun x => w.objects.length - x.1) (0, []) ?_ ⟨by omega, by simp, by simp⟩ ?_
  · (refine Wk.all rfl rfl rfl ?_ rfl ?_ ?_; (repeat (refine AllT.cons (by first | rfl | (simp [lkT]; done) | (simp -implicitDefEqProofs (maxSteps := 4000000) only [go_sem, Nat.reduceAdd, Nat.reduceSub, Nat.reduceMul, Nat.reduceLT, Nat.reduceEqDiff, Nat.reduceLeDiff, Nat.reduceBEq, Int.reduceLE, Int.reduceEq, Int.reduceNe, Int.reduceLT, Int.reduceToNat, reduceCtorEq]; rfl)) ?_)); exact AllT.nil; (repeat (refine AllB.cons (by first | rfl | (simp [lookN]; done) | (simp -implicitDefEqProofs (maxSteps := 4000000) only [go_sem, Nat.reduceAdd, Nat.reduceSub, Nat.reduceMul, Nat.reduceLT, Nat.reduceEqDiff, Nat.reduceLeDiff, Nat.reduceBEq, Int.reduceLE, Int.reduceEq, Int.reduceNe, Int.reduceLT, Int.reduceToNat, reduceCtorEq]; rfl)) ?_)); exact AllB.nil; simp)
  clear h k1
  rintro T1 ⟨k1, z⟩ ⟨hk1, hz, hzl⟩ ih1
  dsimp only at hk1 hz hzl
  simp -implicitDefEqProofs (maxSteps := 4000000) only [go_sem, Nat.reduceAdd, Nat.reduceSub, Nat.reduceMul, Nat.reduceLT, Nat.reduceEqDiff, Nat.reduceLeDiff, Nat.reduceBEq, Int.reduceLE, Int.reduceEq, Int.reduceNe, Int.reduceLT, Int.reduceToNat, reduceCtorEq]
  refine Som.case (fun h2 => ?_) (fun h2 => ?_) <;> simp only [decide_eq_true_eq, decide_eq_false_iff_not] at h2
  · try simp -implicitDefEqProofs (maxSteps := 4000000) only [go_sem, Nat.reduceAdd, Nat.reduceSub, Nat.reduceMul, Nat.reduceLT, Nat.reduceEqDiff, Nat.reduceLeDiff, Nat.reduceBEq, Int.reduceLE, Int.reduceEq, Int.reduceNe, Int.reduceLT, Int.reduceToNat, reduceCtorEq]
    refine Som.and (by omega) ?_
    refine Som.get (by omega) (fun x hx => ?_)
    try simp -implicitDefEqProofs (maxSteps := 4000000) only [go_sem, Nat.reduceAdd, Nat.reduceSub, Nat.reduceMul, Nat.reduceLT, Nat.reduceEqDiff, Nat.reduceLeDiff, Nat.reduceBEq, Int.reduceLE, Int.reduceEq, Int.reduceNe, Int.reduceLT, Int.reduceToNat, reduceCtorEq]
    refine Som.callx (f13_ok x l (by have := lab_in hw hx; omega) (by omega)) (by simp -implicitDefEqProofs (maxSteps := 4000000) only [go_sem, Nat.reduceAdd, Nat.reduceSub, Nat.reduceMul, Nat.reduceLT, Nat.reduceEqDiff, Nat.reduceLeDiff, Nat.reduceBEq, Int.reduceLE, Int.reduceEq, Int.reduceNe, Int.reduceLT, Int.reduceToNat, reduceCtorEq]) ?_
    simp -implicitDefEqProofs (maxSteps := 4000000) only [go_sem, Nat.reduceAdd, Nat.reduceSub, Nat.reduceMul, Nat.reduceLT, Nat.reduceEqDiff, Nat.reduceLeDiff, Nat.reduceBEq, Int.reduceLE, Int.reduceEq, Int.reduceNe, Int.reduceLT, Int.reduceToNat, reduceCtorEq]
    have hwr := wrap_i64 (x := (k1 : Int) + 1) (by omega) (by omega)
    have hko := hm x.id
    have hmem : ∀ y, showO H l x = some y → z ++ [y] = (w.objects.take (k1 + 1)).filterMap (showO H l) := fun y hy => by
      rw [List.take_succ, hx, hz]; simp [hy]
    have hnot : showO H l x = none → z = (w.objects.take (k1 + 1)).filterMap (showO H l) := fun hy => by
      rw [List.take_succ, hx, hz]; simp [hy]
    cases hso : seenO x l with
    | true =>
      simp -implicitDefEqProofs (maxSteps := 4000000) only [go_sem, Nat.reduceAdd, Nat.reduceSub, Nat.reduceMul, Nat.reduceLT, Nat.reduceEqDiff, Nat.reduceLeDiff, Nat.reduceBEq, Int.reduceLE, Int.reduceEq, Int.reduceNe, Int.reduceLT, Int.reduceToNat, reduceCtorEq]
      refine Som.imp (fun r h => TYld_enter [1001] (by rfl) (by rfl) (by simp) (by rfl) h) ?_
      simp -implicitDefEqProofs (maxSteps := 4000000) only [go_sem, Nat.reduceAdd, Nat.reduceSub, Nat.reduceMul, Nat.reduceLT, Nat.reduceEqDiff, Nat.reduceLeDiff, Nat.reduceBEq, Int.reduceLE, Int.reduceEq, Int.reduceNe, Int.reduceLT, Int.reduceToNat, reduceCtorEq, snocO, List.length_append, tby47]
      refine Som.and (by omega) (Som.and (by omega) ?_)
      refine Som.turn (k1 + 1, z ++ [x]) ?_ (ih1 _ ⟨by dsimp only; omega, hmem x (by simp [showO, hso]), by simp; omega⟩ ?_)
      · (refine Wk.all rfl rfl rfl ?_ rfl ?_ ?_; (repeat (refine AllT.cons (by first | rfl | (simp [lkT, hwr]; done) | (simp -implicitDefEqProofs (maxSteps := 4000000) only [go_sem, Nat.reduceAdd, Nat.reduceSub, Nat.reduceMul, Nat.reduceLT, Nat.reduceEqDiff, Nat.reduceLeDiff, Nat.reduceBEq, Int.reduceLE, Int.reduceEq, Int.reduceNe, Int.reduceLT, Int.reduceToNat, reduceCtorEq]; rfl)) ?_)); exact AllT.nil; (repeat (refine AllB.cons (by first | rfl | (simp [lookN]; done) | (simp -implicitDefEqProofs (maxSteps := 4000000) only [go_sem, Nat.reduceAdd, Nat.reduceSub, Nat.reduceMul, Nat.reduceLT, Nat.reduceEqDiff, Nat.reduceLeDiff, Nat.reduceBEq, Int.reduceLE, Int.reduceEq, Int.reduceNe, Int.reduceLT, Int.reduceToNat, reduceCtorEq]; rfl)) ?_)); exact AllB.nil; simp)
      · show w.objects.length - (k1 + 1) < w.objects.length - k1; omega
    | false =>
      simp -implicitDefEqProofs (maxSteps := 4000000) only [go_sem, Nat.reduceAdd, Nat.reduceSub, Nat.reduceMul, Nat.reduceLT, Nat.reduceEqDiff, Nat.reduceLeDiff, Nat.reduceBEq, Int.reduceLE, Int.reduceEq, Int.reduceNe, Int.reduceLT, Int.reduceToNat, reduceCtorEq]
      refine Som.callx (f94_ok x) (by simp -implicitDefEqProofs (maxSteps := 4000000) only [go_sem, Nat.reduceAdd, Nat.reduceSub, Nat.reduceMul, Nat.reduceLT, Nat.reduceEqDiff, Nat.reduceLeDiff, Nat.reduceBEq, Int.reduceLE, Int.reduceEq, Int.reduceNe, Int.reduceLT, Int.reduceToNat, reduceCtorEq]) ?_
      simp -implicitDefEqProofs (maxSteps := 4000000) only [go_sem, Nat.reduceAdd, Nat.reduceSub, Nat.reduceMul, Nat.reduceLT, Nat.reduceEqDiff, Nat.reduceLeDiff, Nat.reduceBEq, Int.reduceLE, Int.reduceEq, Int.reduceNe, Int.reduceLT, Int.reduceToNat, reduceCtorEq, headO_id, headO_kind]
      by_cases hH2 : x.id ∈ H
      · rw [if_pos hH2] at hko
        simp -implicitDefEqProofs (maxSteps := 4000000) only [go_sem, Nat.reduceAdd, Nat.reduceSub, Nat.reduceMul, Nat.reduceLT, Nat.reduceEqDiff, Nat.reduceLeDiff, Nat.reduceBEq, Int.reduceLE, Int.reduceEq, Int.reduceNe, Int.reduceLT, Int.reduceToNat, reduceCtorEq, hko]
        refine Som.imp (fun r h => TYld_enter [1001] (by rfl) (by rfl) (by simp) (by rfl) h) ?_
        simp -implicitDefEqProofs (maxSteps := 4000000) only [go_sem, Nat.reduceAdd, Nat.reduceSub, Nat.reduceMul, Nat.reduceLT, Nat.reduceEqDiff, Nat.reduceLeDiff, Nat.reduceBEq, Int.reduceLE, Int.reduceEq, Int.reduceNe, Int.reduceLT, Int.reduceToNat, reduceCtorEq, snocO, List.length_append, tby47]
        refine Som.and (by omega) (Som.and (by omega) ?_)
        refine Som.turn (k1 + 1, z ++ [hideO x]) ?_ (ih1 _ ⟨by dsimp only; omega, hmem _ (by simp [showO, hso, hH2]), by simp; omega⟩ ?_)
        · (refine Wk.all rfl rfl rfl ?_ rfl ?_ ?_; (repeat (refine AllT.cons (by first | rfl | (simp [lkT, hwr]; done) | (simp -implicitDefEqProofs (maxSteps := 4000000) only [go_sem, Nat.reduceAdd, Nat.reduceSub, Nat.reduceMul, Nat.reduceLT, Nat.reduceEqDiff, Nat.reduceLeDiff, Nat.reduceBEq, Int.reduceLE, Int.reduceEq, Int.reduceNe, Int.reduceLT, Int.reduceToNat, reduceCtorEq]; rfl)) ?_)); exact AllT.nil; (repeat (refine AllB.cons (by first | rfl | (simp [lookN]; done) | (simp -implicitDefEqProofs (maxSteps := 4000000) only [go_sem, Nat.reduceAdd, Nat.reduceSub, Nat.reduceMul, Nat.reduceLT, Nat.reduceEqDiff, Nat.reduceLeDiff, Nat.reduceBEq, Int.reduceLE, Int.reduceEq, Int.reduceNe, Int.reduceLT, Int.reduceToNat, reduceCtorEq]; rfl)) ?_)); exact AllB.nil; simp)
        · show w.objects.length - (k1 + 1) < w.objects.length - k1; omega
      · rw [if_neg hH2] at hko
        simp -implicitDefEqProofs (maxSteps := 4000000) only [go_sem, Nat.reduceAdd, Nat.reduceSub, Nat.reduceMul, Nat.reduceLT, Nat.reduceEqDiff, Nat.reduceLeDiff, Nat.reduceBEq, Int.reduceLE, Int.reduceEq, Int.reduceNe, Int.reduceLT, Int.reduceToNat, reduceCtorEq, hko]
        refine Som.turn (k1 + 1, z) ?_ (ih1 _ ⟨by dsimp only; omega, hnot (by simp [showO, hso, hH2]), by dsimp only; omega⟩ ?_)
        · (refine Wk.all rfl rfl rfl ?_ rfl ?_ ?_; (repeat (refine AllT.cons (by first | rfl | (simp [lkT, hwr]; done) | (simp -implicitDefEqProofs (maxSteps := 4000000) only [go_sem, Nat.reduceAdd, Nat.reduceSub, Nat.reduceMul, Nat.reduceLT, Nat.reduceEqDiff, Nat.reduceLeDiff, Nat.reduceBEq, Int.reduceLE, Int.reduceEq, Int.reduceNe, Int.reduceLT, Int.reduceToNat, reduceCtorEq]; rfl)) ?_)); exact AllT.nil; (repeat (refine AllB.cons (by first | rfl | (simp [lookN]; done) | (simp -implicitDefEqProofs (maxSteps := 4000000) only [go_sem, Nat.reduceAdd, Nat.reduceSub, Nat.reduceMul, Nat.reduceLT, Nat.reduceEqDiff, Nat.reduceLeDiff, Nat.reduceBEq, Int.reduceLE, Int.reduceEq, Int.reduceNe, Int.reduceLT, Int.reduceToNat, reduceCtorEq]; rfl)) ?_)); exact AllB.nil; simp)
        · show w.objects.length - (k1 + 1) < w.objects.length - k1; omega
  · try simp -implicitDefEqProofs (maxSteps := 4000000) only [go_sem, Nat.reduceAdd, Nat.reduceSub, Nat.reduceMul, Nat.reduceLT, Nat.reduceEqDiff, Nat.reduceLeDiff, Nat.reduceBEq, Int.reduceLE, Int.reduceEq, Int.reduceNe, Int.reduceLT, Int.reduceToNat, reduceCtorEq]
    refine Som.done _ ?_ rfl
    have e : w.objects.take k1 = w.objects := List.take_of_length_le (by omega)
    rw [e] at hz
    rw [hz, ← hH]; rfl
end Go.Proofs.Ytijkiddfobojaaa
