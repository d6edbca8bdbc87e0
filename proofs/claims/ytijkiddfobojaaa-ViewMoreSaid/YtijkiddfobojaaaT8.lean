import Derived.Test.YtijkiddfobojaaaT7
namespace Go.Proofs.Ytijkiddfobojaaa
set_option linter.all false
set_option linter.unusedSimpArgs false
set_option linter.unusedVariables false
set_option maxRecDepth 20000
set_option maxHeartbeats 2000000
open Go Go.Ab Go.Proofs
/-- A level, as it counts. -/
def ofL (l : Int) : Int := if l < 0 ∨ l > 5 then 2 else l
theorem f64_ok (l : Int) : PureOK Try.prog 64 [.i l] [.i (ofL l)] := by
  refine PureOK.of_body' [] Try.func64 (by rfl) (by simp [Try.f64]) (fun hwf => ?_)
  simp -implicitDefEqProofs (maxSteps := 4000000) only [go_sem, Nat.reduceAdd, Nat.reduceSub, Nat.reduceMul, Nat.reduceLT, Nat.reduceEqDiff, Nat.reduceLeDiff, Nat.reduceBEq, Int.reduceLE, Int.reduceEq, Int.reduceNe, Int.reduceLT, Int.reduceToNat, reduceCtorEq, Try.f64]
  refine ⟨fun h => ?_, fun h => ⟨fun h2 => ?_, fun h2 => ?_⟩⟩ <;> simp at h <;> (try simp at h2) <;> simp [ofL] <;> omega
theorem f35_ok (a b : Int) : PureOK Try.prog 35 [.i a, .i b] [.b (decide (ofL a ≤ ofL b))] := by
  refine PureOK.of_body' [] Try.func35 (by rfl) (by simp [Try.f35]) (fun hwf => ?_)
  simp -implicitDefEqProofs (maxSteps := 4000000) only [go_sem, Nat.reduceAdd, Nat.reduceSub, Nat.reduceMul, Nat.reduceLT, Nat.reduceEqDiff, Nat.reduceLeDiff, Nat.reduceBEq, Int.reduceLE, Int.reduceEq, Int.reduceNe, Int.reduceLT, Int.reduceToNat, reduceCtorEq, Try.f35]
  refine TCall_pure (f64_ok a) (by simp -implicitDefEqProofs (maxSteps := 4000000) only [go_sem, Nat.reduceAdd, Nat.reduceSub, Nat.reduceMul, Nat.reduceLT, Nat.reduceEqDiff, Nat.reduceLeDiff, Nat.reduceBEq, Int.reduceLE, Int.reduceEq, Int.reduceNe, Int.reduceLT, Int.reduceToNat, reduceCtorEq]) ?_
  simp -implicitDefEqProofs (maxSteps := 4000000) only [go_sem, Nat.reduceAdd, Nat.reduceSub, Nat.reduceMul, Nat.reduceLT, Nat.reduceEqDiff, Nat.reduceLeDiff, Nat.reduceBEq, Int.reduceLE, Int.reduceEq, Int.reduceNe, Int.reduceLT, Int.reduceToNat, reduceCtorEq]
  refine TCall_pure (f64_ok b) (by simp -implicitDefEqProofs (maxSteps := 4000000) only [go_sem, Nat.reduceAdd, Nat.reduceSub, Nat.reduceMul, Nat.reduceLT, Nat.reduceEqDiff, Nat.reduceLeDiff, Nat.reduceBEq, Int.reduceLE, Int.reduceEq, Int.reduceNe, Int.reduceLT, Int.reduceToNat, reduceCtorEq]) ?_
  simp -implicitDefEqProofs (maxSteps := 4000000) only [go_sem, Nat.reduceAdd, Nat.reduceSub, Nat.reduceMul, Nat.reduceLT, Nat.reduceEqDiff, Nat.reduceLeDiff, Nat.reduceBEq, Int.reduceLE, Int.reduceEq, Int.reduceNe, Int.reduceLT, Int.reduceToNat, reduceCtorEq]
def raiseL (l : Int) : Int := if ofL l = 0 then 5 else ofL l
theorem f77_ok (l : Int) : PureOK Try.prog 77 [.i l] [.i (raiseL l)] := by
  refine PureOK.of_body' [] Try.func77 (by rfl) (by simp [Try.f77]) (fun hwf => ?_)
  simp -implicitDefEqProofs (maxSteps := 4000000) only [go_sem, Nat.reduceAdd, Nat.reduceSub, Nat.reduceMul, Nat.reduceLT, Nat.reduceEqDiff, Nat.reduceLeDiff, Nat.reduceBEq, Int.reduceLE, Int.reduceEq, Int.reduceNe, Int.reduceLT, Int.reduceToNat, reduceCtorEq, Try.f77]
  refine TCall_pure (f64_ok l) (by simp -implicitDefEqProofs (maxSteps := 4000000) only [go_sem, Nat.reduceAdd, Nat.reduceSub, Nat.reduceMul, Nat.reduceLT, Nat.reduceEqDiff, Nat.reduceLeDiff, Nat.reduceBEq, Int.reduceLE, Int.reduceEq, Int.reduceNe, Int.reduceLT, Int.reduceToNat, reduceCtorEq]) ?_
  simp -implicitDefEqProofs (maxSteps := 4000000) only [go_sem, Nat.reduceAdd, Nat.reduceSub, Nat.reduceMul, Nat.reduceLT, Nat.reduceEqDiff, Nat.reduceLeDiff, Nat.reduceBEq, Int.reduceLE, Int.reduceEq, Int.reduceNe, Int.reduceLT, Int.reduceToNat, reduceCtorEq]
  refine ⟨fun h => ?_, fun h => ?_⟩
  · have h' : ofL l = 0 := by simpa using h
    simp [raiseL, h']
  · refine TCall_pure (f64_ok l) (by simp -implicitDefEqProofs (maxSteps := 4000000) only [go_sem, Nat.reduceAdd, Nat.reduceSub, Nat.reduceMul, Nat.reduceLT, Nat.reduceEqDiff, Nat.reduceLeDiff, Nat.reduceBEq, Int.reduceLE, Int.reduceEq, Int.reduceNe, Int.reduceLT, Int.reduceToNat, reduceCtorEq]) ?_
    simp -implicitDefEqProofs (maxSteps := 4000000) only [go_sem, Nat.reduceAdd, Nat.reduceSub, Nat.reduceMul, Nat.reduceLT, Nat.reduceEqDiff, Nat.reduceLeDiff, Nat.reduceBEq, Int.reduceLE, Int.reduceEq, Int.reduceNe, Int.reduceLT, Int.reduceToNat, reduceCtorEq]
    have h' : ofL l ≠ 0 := by simpa using h
    simp [raiseL, h']
/-- The level of a category. -/
def getL (l : List XPair) (c : Int) : Int := match l.find? (fun q => q.cat == c) with | some q => q.lev | none => 2
theorem getL_drop {l : List XPair} {k : Nat} {x : XPair} {c : Int} (h : l[k]? = some x) : getL (l.drop k) c = if x.cat = c then x.lev else getL (l.drop (k + 1)) c := by
  rw [drop_get h]
  by_cases hx : x.cat = c <;> simp [getL, List.find?_cons, hx]
theorem f36_ok (l : List XPair) (c : Int) : PureOK Try.prog 36 [encL XPair.enc l, .u c] [.i (getL l c)] := by
  refine PureOK.of_body' [] Try.func36 (by rfl) (by simp [Try.f36]) (fun hwf => ?_)
  simp -implicitDefEqProofs (maxSteps := 4000000) only [go_sem, Nat.reduceAdd, Nat.reduceSub, Nat.reduceMul, Nat.reduceLT, Nat.reduceEqDiff, Nat.reduceLeDiff, Nat.reduceBEq, Int.reduceLE, Int.reduceEq, Int.reduceNe, Int.reduceLT, Int.reduceToNat, reduceCtorEq, Try.f36]
  simp only [D.wfL, wf_encL, wf_i, wf_u, wf_b, and_true, true_and] at hwf
  refine TC_while (fun k : { k : Nat // k ≤ l.length ∧ getL l c = getL (l.drop k) c } => { rd := none, n := 24, ts := [(0, .d (encL XPair.enc l)), (1, .d (.u c)), (5, .d (.i k.1))], sv := [], bx := [], lp := [], ow := [] }) (fun k => l.length - k.1) ⟨0, by simp⟩ ?_ ?_
  · exact Wk.lists rfl rfl rfl (by simp [lkT]) rfl (by simp [lookN]) (by simp)
  · rintro ⟨k, hk, hs⟩
    simp -implicitDefEqProofs (maxSteps := 4000000) only [go_sem, Nat.reduceAdd, Nat.reduceSub, Nat.reduceMul, Nat.reduceLT, Nat.reduceEqDiff, Nat.reduceLeDiff, Nat.reduceBEq, Int.reduceLE, Int.reduceEq, Int.reduceNe, Int.reduceLT, Int.reduceToNat, reduceCtorEq]
    refine ⟨fun hlt => ?_, fun hge => ?_⟩
    · simp only [decide_eq_true_eq] at hlt
      refine ⟨hlt, fun x hx => ⟨fun h1 => ⟨hlt, fun y hy => ?_⟩, fun h1 => ?_⟩⟩
      · rw [hx] at hy; cases hy
        have h1' : x.cat = c := by simpa using h1
        rw [hs, getL_drop hx, if_pos h1']
      · have h1' : x.cat ≠ c := by simpa using h1
        have hs' : getL l c = getL (l.drop (k + 1)) c := by rw [hs, getL_drop hx, if_neg h1']
        refine ⟨⟨k + 1, by omega, hs'⟩, ?_, ?_⟩
        · have := wrap_i64 (x := (k : Int) + 1) (by omega) (by omega)
          exact Wk.lists rfl rfl rfl (by simp [lkT, this]) rfl (by simp [lookN]) (by simp)
        · show l.length - (k + 1) < l.length - k; omega
    · simp only [decide_eq_false_iff_not] at hge
      rw [hs, List.drop_eq_nil_of_le (by omega)]; rfl
/-- Each category of one label, and of the other, is as high or higher there. -/
def leqOK (a b : List XPair) (c : Int) : Bool := decide (ofL (getL a c) ≤ ofL (getL b c))
def leqR (a b : List XPair) : Bool := a.all (fun q => decide (ofL q.lev ≤ ofL (getL b q.cat))) && b.all (fun q => decide (ofL (getL a q.cat) ≤ ofL q.lev))
theorem all_drop {l : List XPair} {p : XPair → Bool} {k : Nat} {x : XPair} (h : l[k]? = some x) : (l.drop k).all p = (p x && (l.drop (k + 1)).all p) := by rw [drop_get h]; rfl
theorem f11_ok (a b : List XPair) : PureOK Try.prog 11 [encL XPair.enc a, encL XPair.enc b] [.b (leqR a b)] := by
  refine PureOK.of_body' [] Try.func11 (by rfl) (by simp [Try.f11]) (fun hwf => ?_)
  simp -implicitDefEqProofs (maxSteps := 4000000) only [go_sem, Nat.reduceAdd, Nat.reduceSub, Nat.reduceMul, Nat.reduceLT, Nat.reduceEqDiff, Nat.reduceLeDiff, Nat.reduceBEq, Int.reduceLE, Int.reduceEq, Int.reduceNe, Int.reduceLT, Int.reduceToNat, reduceCtorEq, Try.f11]
  simp only [D.wfL, wf_encL, wf_i, wf_u, wf_b, and_true, true_and] at hwf
  refine TC_while (fun k : { k : Nat // k ≤ a.length ∧ leqR a b = ((a.drop k).all (fun q => decide (ofL q.lev ≤ ofL (getL b q.cat))) && b.all (fun q => decide (ofL (getL a q.cat) ≤ ofL q.lev))) } => { rd := none, n := 47, ts := [(0, .d (encL XPair.enc a)), (1, .d (encL XPair.enc b)), (4, .d (.b false)), (5, .d (.i k.1))], sv := [], bx := [], lp := [], ow := [] }) (fun k => a.length - k.1) ⟨0, by simp [leqR]⟩ ?_ ?_
  · exact Wk.lists rfl rfl rfl (by simp [lkT]) rfl (by simp [lookN]) (by simp)
  · rintro ⟨k, hk, hs⟩
    simp -implicitDefEqProofs (maxSteps := 4000000) only [go_sem, Nat.reduceAdd, Nat.reduceSub, Nat.reduceMul, Nat.reduceLT, Nat.reduceEqDiff, Nat.reduceLeDiff, Nat.reduceBEq, Int.reduceLE, Int.reduceEq, Int.reduceNe, Int.reduceLT, Int.reduceToNat, reduceCtorEq]
    refine ⟨fun hlt => ?_, fun hge => ?_⟩
    · simp only [decide_eq_true_eq] at hlt
      refine TC_draw [.calm [0, 1, 2, 3, 4, 5, 6, 7, 8, 9, 10, 11, 12, 13]] mixed (by kernel_rfl) ?_
      simp -implicitDefEqProofs (maxSteps := 4000000) only [go_sem, Nat.reduceAdd, Nat.reduceSub, Nat.reduceMul, Nat.reduceLT, Nat.reduceEqDiff, Nat.reduceLeDiff, Nat.reduceBEq, Int.reduceLE, Int.reduceEq, Int.reduceNe, Int.reduceLT, Int.reduceToNat, reduceCtorEq]
      refine ⟨hlt, fun x hx => ⟨hlt, fun y hy => ?_⟩⟩
      rw [hx] at hy; cases hy
      refine PCall_pure (f36_ok b x.cat) (by simp -implicitDefEqProofs (maxSteps := 4000000) only [go_sem, Nat.reduceAdd, Nat.reduceSub, Nat.reduceMul, Nat.reduceLT, Nat.reduceEqDiff, Nat.reduceLeDiff, Nat.reduceBEq, Int.reduceLE, Int.reduceEq, Int.reduceNe, Int.reduceLT, Int.reduceToNat, reduceCtorEq]) ?_
      simp -implicitDefEqProofs (maxSteps := 4000000) only [go_sem, Nat.reduceAdd, Nat.reduceSub, Nat.reduceMul, Nat.reduceLT, Nat.reduceEqDiff, Nat.reduceLeDiff, Nat.reduceBEq, Int.reduceLE, Int.reduceEq, Int.reduceNe, Int.reduceLT, Int.reduceToNat, reduceCtorEq]
      refine PCall_pure (f35_ok x.lev (getL b x.cat)) (by simp -implicitDefEqProofs (maxSteps := 4000000) only [go_sem, Nat.reduceAdd, Nat.reduceSub, Nat.reduceMul, Nat.reduceLT, Nat.reduceEqDiff, Nat.reduceLeDiff, Nat.reduceBEq, Int.reduceLE, Int.reduceEq, Int.reduceNe, Int.reduceLT, Int.reduceToNat, reduceCtorEq]) ?_
      simp -implicitDefEqProofs (maxSteps := 4000000) only [go_sem, Nat.reduceAdd, Nat.reduceSub, Nat.reduceMul, Nat.reduceLT, Nat.reduceEqDiff, Nat.reduceLeDiff, Nat.reduceBEq, Int.reduceLE, Int.reduceEq, Int.reduceNe, Int.reduceLT, Int.reduceToNat, reduceCtorEq]
      refine ⟨fun h1 => ?_, fun h1 => ?_⟩
      · have h1' : ¬ ofL x.lev ≤ ofL (getL b x.cat) := by simpa using h1
        rw [hs, all_drop hx]; simp [h1']
      · have h1' : ofL x.lev ≤ ofL (getL b x.cat) := by simpa using h1
        refine ⟨⟨k + 1, by omega, by rw [hs, all_drop hx]; simp [h1']⟩, ?_, ?_⟩
        · have := wrap_i64 (x := (k : Int) + 1) (by omega) (by omega)
          exact Wk.lists rfl rfl rfl (by simp [lkT, this]) rfl (by simp [lookN]) (by simp)
        · show a.length - (k + 1) < a.length - k; omega
    · simp only [decide_eq_false_iff_not] at hge
      have hs0 : leqR a b = b.all (fun q => decide (ofL (getL a q.cat) ≤ ofL q.lev)) := by rw [hs, List.drop_eq_nil_of_le (by omega)]; rfl
      refine TC_while (fun k : { k : Nat // k ≤ b.length ∧ leqR a b = (b.drop k).all (fun q => decide (ofL (getL a q.cat) ≤ ofL q.lev)) } => { rd := none, n := 47, ts := [(0, .d (encL XPair.enc a)), (1, .d (encL XPair.enc b)), (4, .d (.b false)), (6, .d (.i k.1))], sv := [], bx := [], lp := [], ow := [] }) (fun k => b.length - k.1) ⟨0, by simp, by simpa using hs0⟩ ?_ ?_
      · exact Wk.lists rfl rfl rfl (by simp [lkT]) rfl (by simp [lookN]) (by simp)
      · clear hs hk hge k
        rintro ⟨k, hk, hs⟩
        simp -implicitDefEqProofs (maxSteps := 4000000) only [go_sem, Nat.reduceAdd, Nat.reduceSub, Nat.reduceMul, Nat.reduceLT, Nat.reduceEqDiff, Nat.reduceLeDiff, Nat.reduceBEq, Int.reduceLE, Int.reduceEq, Int.reduceNe, Int.reduceLT, Int.reduceToNat, reduceCtorEq]
        refine ⟨fun hlt => ?_, fun hge => ?_⟩
        · simp only [decide_eq_true_eq] at hlt
          refine TC_draw [.calm [0, 1, 2, 3, 4, 5, 6, 7, 8, 9, 10, 11, 12, 13]] mixed (by kernel_rfl) ?_
          simp -implicitDefEqProofs (maxSteps := 4000000) only [go_sem, Nat.reduceAdd, Nat.reduceSub, Nat.reduceMul, Nat.reduceLT, Nat.reduceEqDiff, Nat.reduceLeDiff, Nat.reduceBEq, Int.reduceLE, Int.reduceEq, Int.reduceNe, Int.reduceLT, Int.reduceToNat, reduceCtorEq]
          refine ⟨hlt, fun x hx => ?_⟩
          refine PCall_pure (f36_ok a x.cat) (by simp -implicitDefEqProofs (maxSteps := 4000000) only [go_sem, Nat.reduceAdd, Nat.reduceSub, Nat.reduceMul, Nat.reduceLT, Nat.reduceEqDiff, Nat.reduceLeDiff, Nat.reduceBEq, Int.reduceLE, Int.reduceEq, Int.reduceNe, Int.reduceLT, Int.reduceToNat, reduceCtorEq]) ?_
          simp -implicitDefEqProofs (maxSteps := 4000000) only [go_sem, Nat.reduceAdd, Nat.reduceSub, Nat.reduceMul, Nat.reduceLT, Nat.reduceEqDiff, Nat.reduceLeDiff, Nat.reduceBEq, Int.reduceLE, Int.reduceEq, Int.reduceNe, Int.reduceLT, Int.reduceToNat, reduceCtorEq]
          refine ⟨hlt, fun y hy => ?_⟩
          rw [hx] at hy; cases hy
          refine PCall_pure (f35_ok (getL a x.cat) x.lev) (by simp -implicitDefEqProofs (maxSteps := 4000000) only [go_sem, Nat.reduceAdd, Nat.reduceSub, Nat.reduceMul, Nat.reduceLT, Nat.reduceEqDiff, Nat.reduceLeDiff, Nat.reduceBEq, Int.reduceLE, Int.reduceEq, Int.reduceNe, Int.reduceLT, Int.reduceToNat, reduceCtorEq]) ?_
          simp -implicitDefEqProofs (maxSteps := 4000000) only [go_sem, Nat.reduceAdd, Nat.reduceSub, Nat.reduceMul, Nat.reduceLT, Nat.reduceEqDiff, Nat.reduceLeDiff, Nat.reduceBEq, Int.reduceLE, Int.reduceEq, Int.reduceNe, Int.reduceLT, Int.reduceToNat, reduceCtorEq]
          refine ⟨fun h1 => ?_, fun h1 => ?_⟩
          · have h1' : ¬ ofL (getL a x.cat) ≤ ofL x.lev := by simpa using h1
            rw [hs, all_drop hx]; simp [h1']
          · have h1' : ofL (getL a x.cat) ≤ ofL x.lev := by simpa using h1
            refine ⟨⟨k + 1, by omega, by rw [hs, all_drop hx]; simp [h1']⟩, ?_, ?_⟩
            · have := wrap_i64 (x := (k : Int) + 1) (by omega) (by omega)
              exact Wk.lists rfl rfl rfl (by simp [lkT, this]) rfl (by simp [lookN]) (by simp)
            · show b.length - (k + 1) < b.length - k; omega
        · simp only [decide_eq_false_iff_not] at hge
          rw [hs, List.drop_eq_nil_of_le (by omega)]; rfl
/-- A label, raised. -/
def raiseR (l : List XPair) : List XPair := l.map fun q => ⟨q.cat, raiseL q.lev⟩
theorem f43_ok (l : List XPair) (hl : l.length ≤ 1000000) : PureOK Try.prog 43 [encL XPair.enc l] [encL XPair.enc (raiseR l)] := by
  refine PureOK.of_body' [] Try.func43 (by rfl) (by simp [Try.f43]) (fun hwf => ?_)
  simp -implicitDefEqProofs (maxSteps := 4000000) only [go_sem, Nat.reduceAdd, Nat.reduceSub, Nat.reduceMul, Nat.reduceLT, Nat.reduceEqDiff, Nat.reduceLeDiff, Nat.reduceBEq, Int.reduceLE, Int.reduceEq, Int.reduceNe, Int.reduceLT, Int.reduceToNat, reduceCtorEq, Try.f43]
  refine TC_while (fun k : { k : Nat // k ≤ l.length } => { rd := none, n := 27, ts := [(0, .d (encL XPair.enc l)), (3, .own [3] 2 ((raiseR (l.take k.1)).map XPair.enc)), (4, .d (.i k.1))], sv := [], bx := [], lp := [], ow := [[3]] }) (fun k => l.length - k.1) ⟨0, by simp⟩ ?_ ?_
  · exact Wk.lists rfl rfl rfl (by simp [lkT, raiseR]) rfl (by simp [lookN]) (by simp)
  · rintro ⟨k, hk⟩
    simp -implicitDefEqProofs (maxSteps := 4000000) only [go_sem, Nat.reduceAdd, Nat.reduceSub, Nat.reduceMul, Nat.reduceLT, Nat.reduceEqDiff, Nat.reduceLeDiff, Nat.reduceBEq, Int.reduceLE, Int.reduceEq, Int.reduceNe, Int.reduceLT, Int.reduceToNat, reduceCtorEq]
    refine ⟨fun hlt => ?_, fun hge => ?_⟩
    · simp only [decide_eq_true_eq] at hlt
      refine TC_draw [.calm [0, 1, 2, 3, 4, 5, 6, 7, 8, 9, 10, 11, 12, 13], .bar 14, .bar 15] mixed (by kernel_rfl) ?_
      simp -implicitDefEqProofs (maxSteps := 4000000) only [go_sem, Nat.reduceAdd, Nat.reduceSub, Nat.reduceMul, Nat.reduceLT, Nat.reduceEqDiff, Nat.reduceLeDiff, Nat.reduceBEq, Int.reduceLE, Int.reduceEq, Int.reduceNe, Int.reduceLT, Int.reduceToNat, reduceCtorEq, tby55]
      refine ⟨hlt, fun x hx => ⟨hlt, fun y hy => ?_⟩⟩
      rw [hx] at hy; cases hy
      refine PCall_pure (f77_ok x.lev) (by simp -implicitDefEqProofs (maxSteps := 4000000) only [go_sem, Nat.reduceAdd, Nat.reduceSub, Nat.reduceMul, Nat.reduceLT, Nat.reduceEqDiff, Nat.reduceLeDiff, Nat.reduceBEq, Int.reduceLE, Int.reduceEq, Int.reduceNe, Int.reduceLT, Int.reduceToNat, reduceCtorEq]) ?_
      simp -implicitDefEqProofs (maxSteps := 4000000) only [go_sem, Nat.reduceAdd, Nat.reduceSub, Nat.reduceMul, Nat.reduceLT, Nat.reduceEqDiff, Nat.reduceLeDiff, Nat.reduceBEq, Int.reduceLE, Int.reduceEq, Int.reduceNe, Int.reduceLT, Int.reduceToNat, reduceCtorEq, tby55]
      have e : (raiseR (l.take (k + 1))).map XPair.enc = (raiseR (l.take k)).map XPair.enc ++ [D.agg [D.v (.int .u64 x.cat), D.v (.int .i64 (raiseL x.lev))]] := by
        rw [List.take_succ, hx]; simp [raiseR, XPair.agg]
      have hn : (raiseR (l.take k)).length = k := by simp [raiseR]; omega
      refine ⟨by omega, by omega, ⟨k + 1, by omega⟩, ?_, ?_⟩
      · have := wrap_i64 (x := (k : Int) + 1) (by omega) (by omega)
        exact Wk.lists rfl rfl rfl (by simp [lkT, this, e]) rfl (by simp [lookN]) (by simp)
      · show l.length - (k + 1) < l.length - k; omega
    · simp only [decide_eq_false_iff_not] at hge
      rw [List.take_of_length_le (by omega)]; rfl
theorem f23_ok (a b : List XPair) (ha : a.length ≤ 1000000) : PureOK Try.prog 23 [encL XPair.enc a, encL XPair.enc b] [.b (leqR b (raiseR a))] := by
  refine PureOK.of_body' [] Try.func23 (by rfl) (by simp [Try.f23]) (fun hwf => ?_)
  simp -implicitDefEqProofs (maxSteps := 4000000) only [go_sem, Nat.reduceAdd, Nat.reduceSub, Nat.reduceMul, Nat.reduceLT, Nat.reduceEqDiff, Nat.reduceLeDiff, Nat.reduceBEq, Int.reduceLE, Int.reduceEq, Int.reduceNe, Int.reduceLT, Int.reduceToNat, reduceCtorEq, Try.f23]
  refine TCall_pure (f43_ok a ha) (by simp -implicitDefEqProofs (maxSteps := 4000000) only [go_sem, Nat.reduceAdd, Nat.reduceSub, Nat.reduceMul, Nat.reduceLT, Nat.reduceEqDiff, Nat.reduceLeDiff, Nat.reduceBEq, Int.reduceLE, Int.reduceEq, Int.reduceNe, Int.reduceLT, Int.reduceToNat, reduceCtorEq]) ?_
  simp -implicitDefEqProofs (maxSteps := 4000000) only [go_sem, Nat.reduceAdd, Nat.reduceSub, Nat.reduceMul, Nat.reduceLT, Nat.reduceEqDiff, Nat.reduceLeDiff, Nat.reduceBEq, Int.reduceLE, Int.reduceEq, Int.reduceNe, Int.reduceLT, Int.reduceToNat, reduceCtorEq]
  refine TCall_pure (f11_ok b (raiseR a)) (by simp -implicitDefEqProofs (maxSteps := 4000000) only [go_sem, Nat.reduceAdd, Nat.reduceSub, Nat.reduceMul, Nat.reduceLT, Nat.reduceEqDiff, Nat.reduceLeDiff, Nat.reduceBEq, Int.reduceLE, Int.reduceEq, Int.reduceNe, Int.reduceLT, Int.reduceToNat, reduceCtorEq]) ?_
  simp -implicitDefEqProofs (maxSteps := 4000000) only [go_sem, Nat.reduceAdd, Nat.reduceSub, Nat.reduceMul, Nat.reduceLT, Nat.reduceEqDiff, Nat.reduceLeDiff, Nat.reduceBEq, Int.reduceLE, Int.reduceEq, Int.reduceNe, Int.reduceLT, Int.reduceToNat, reduceCtorEq]
theorem f24_ok (a b : List XPair) (ha : a.length ≤ 1000000) : PureOK Try.prog 24 [encL XPair.enc a, encL XPair.enc b] [.b (leqR b (raiseR a) && leqR a b)] := by
  refine PureOK.of_body' [] Try.func24 (by rfl) (by simp [Try.f24]) (fun hwf => ?_)
  simp -implicitDefEqProofs (maxSteps := 4000000) only [go_sem, Nat.reduceAdd, Nat.reduceSub, Nat.reduceMul, Nat.reduceLT, Nat.reduceEqDiff, Nat.reduceLeDiff, Nat.reduceBEq, Int.reduceLE, Int.reduceEq, Int.reduceNe, Int.reduceLT, Int.reduceToNat, reduceCtorEq, Try.f24]
  refine TCall_pure (f23_ok a b ha) (by simp -implicitDefEqProofs (maxSteps := 4000000) only [go_sem, Nat.reduceAdd, Nat.reduceSub, Nat.reduceMul, Nat.reduceLT, Nat.reduceEqDiff, Nat.reduceLeDiff, Nat.reduceBEq, Int.reduceLE, Int.reduceEq, Int.reduceNe, Int.reduceLT, Int.reduceToNat, reduceCtorEq]) ?_
  simp -implicitDefEqProofs (maxSteps := 4000000) only [go_sem, Nat.reduceAdd, Nat.reduceSub, Nat.reduceMul, Nat.reduceLT, Nat.reduceEqDiff, Nat.reduceLeDiff, Nat.reduceBEq, Int.reduceLE, Int.reduceEq, Int.reduceNe, Int.reduceLT, Int.reduceToNat, reduceCtorEq]
  refine ⟨fun h => ?_, fun h => ?_⟩
  · refine TCall_pure (f11_ok a b) (by simp -implicitDefEqProofs (maxSteps := 4000000) only [go_sem, Nat.reduceAdd, Nat.reduceSub, Nat.reduceMul, Nat.reduceLT, Nat.reduceEqDiff, Nat.reduceLeDiff, Nat.reduceBEq, Int.reduceLE, Int.reduceEq, Int.reduceNe, Int.reduceLT, Int.reduceToNat, reduceCtorEq]) ?_
    simp -implicitDefEqProofs (maxSteps := 4000000) only [go_sem, Nat.reduceAdd, Nat.reduceSub, Nat.reduceMul, Nat.reduceLT, Nat.reduceEqDiff, Nat.reduceLeDiff, Nat.reduceBEq, Int.reduceLE, Int.reduceEq, Int.reduceNe, Int.reduceLT, Int.reduceToNat, reduceCtorEq]
    simp [h]
  · simp [h]
end Go.Proofs.Ytijkiddfobojaaa
