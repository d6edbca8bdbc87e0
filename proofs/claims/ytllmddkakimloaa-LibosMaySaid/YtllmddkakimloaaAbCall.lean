import Derived.Test.YtllmddkakimloaaAbApp2
/-! Calls and rounds; regions; code. -/
namespace Go.Ab
set_option linter.all false
open Go Go.RowKit
variable {P : Program} {o : Oper} {a : Act} {w : World} {K : Act → World → Prop} {Q : Exit → Act → World → Prop} {n : Nat} {Mo : Cells} {m : Mp} {s : Sa} {sv : List Act} {k : Sa → Prop} {p : Name}

theorem argsOK_ops {as : List Act} (hR : Rel Mo m s (a :: as) w) (l : List Operand) : ArgsOK w (Tot Mo s.bx s.ow m) m (l.map s.get) (l.map a.eval).toArray :=
  ⟨by simp, fun i hi => by
    simp only [List.length_map] at hi
    simp only [List.getElem_map, Array.getD_eq_getD_getElem?, List.getElem?_toArray, List.getElem?_map, List.getElem?_eq_getElem hi, Option.map_some, Option.getD_some]
    exact hR.operand _⟩
theorem ArgsOK.append {M : Cells} {l1 l2 : List V} {v1 v2 : Array Value} (h1 : ArgsOK w M m l1 v1) (h2 : ArgsOK w M m l2 v2) : ArgsOK w M m (l1 ++ l2) (v1 ++ v2) := by
  refine ⟨by simp [h1.1, h2.1], fun i hi => ?_⟩
  by_cases h : i < l1.length
  · have := h1.2 i h
    rw [List.getElem_append_left h]
    rw [Array.getD_eq_getD_getElem?] at this ⊢
    rw [Array.getElem?_append_left (by rw [h1.1]; exact h)]; exact this
  · have := h2.2 (i - l1.length) (by simp at hi; omega)
    rw [List.getElem_append_right (by omega)]
    rw [Array.getD_eq_getD_getElem?] at this ⊢
    rw [Array.getElem?_append_right (by rw [h1.1]; omega), h1.1]; exact this
theorem callable_inv {g : FuncId} (h : callable P g = true) : ∃ fn, P.funcs[g]? = some fn ∧ fn.body.isSome = true ∧ fn.name ≠ "runtime.NumGoroutine" := by
  unfold callable at h
  split at h
  · rename_i fn hfn
    simp only [Bool.and_eq_true, bne_iff_ne] at h
    exact ⟨fn, hfn, h.1, h.2⟩
  · cases h
theorem run_callFunc {g : FuncId} (h : callable P g = true) (args : Array Value) : (callFunc g args).run P w = .ok (.enter g args) w := by
  obtain ⟨fn, h1, h2, h3⟩ := callable_inv h
  have h4 : fn.body ≠ none := by intro e; simp [e] at h2
  unfold callFunc
  simp only [Sem.run_bind, run_program, Result.andThen_ok, h1]
  simp [h3, h4]
theorem depth_none {r : Option Nat} {n : Nat} : (Wd r).depth.isSome = true → 1 ≤ n := by intro h; cases h

theorem op_enter (hR : Rel Mo m s (a :: sv) w) (hK : OpNext Mo m s o.dst a sv w k K) {c : Call} (hop : o.op = .call c) {g : FuncId} {args : List V} {vs : Array Value}
    (hrun : (execOp a.eval o).run P w = .ok (.enter g vs) w) (hargs : ArgsOK w (Tot Mo s.bx s.ow m) m args vs) {q : Name}
    (h : TCall P q g args s fun v s' => (∀ d, o.dst = some d → d < s'.n) ∧ k (s'.put o.dst v)) : o.wpIn (Wd (rdOf m s)) n P a w K Q := by
  refine ⟨fun _ _ => trivial, ?_⟩
  rw [show (Wd (rdOf m s)).round = rdOf m s from rfl, Oper.semAt_eq (rdOf m s) a.eval o (fun d => by rw [hop]; exact fun e => by cases e), hrun]
  refine ⟨depth_none, (h Mo m (a :: sv) w (n - 1) vs (rdOf m s) hR hargs).mono ?_⟩
  rintro e w' ⟨c', v, m', s', rfl, ⟨hn, hk⟩, hR', hv, hst, hrd⟩
  exact next_put' hK hR' hn hst hrd hv hk

theorem op_call (hR : Rel Mo m s (a :: sv) w) (hK : OpNext Mo m s o.dst a sv w k K) (h : evOp P (sems P) p o s k)
    {c : Call} (hop : o.op = .call c) {f : Operand} (hc : c.callee = .value f) : o.wpIn (Wd (rdOf m s)) n P a w K Q := by
  simp only [evOp, hop, hc] at h
  have hf := hR.operand f
  have hargs := argsOK_ops hR c.args.toList
  have hca : (c.args.toList.map a.eval).toArray = c.args.map a.eval := by apply Array.ext'; rw [List.toList_toArray, Array.toList_map]
  rw [hca] at hargs
  split at h
  · rename_i g x y hg
    obtain ⟨hcal, h⟩ := h
    rw [hg] at hf
    obtain ⟨e, hok⟩ := hf.val
    simp only [okLeaf] at hok
    obtain ⟨rfl, rfl⟩ := hok
    refine op_enter (q := []) hR hK hop ?_ hargs h
    simp only [execOp, hop, resolve, hc, e, Deferred.ofValue, Sem.run_bind, Sem.run_pure, Result.andThen_ok, invoke, run_callFunc hcal]
    simp
  · rename_i g cap hg
    obtain ⟨hcal, h⟩ := h
    rw [hg] at hf
    obtain ⟨cs, e, hs, hrep⟩ := hf.fn_inv
    refine op_enter (q := []) hR hK hop ?_ (hargs.append ⟨hs, hrep⟩) h
    simp only [execOp, hop, resolve, hc, e, Deferred.ofValue, Sem.run_bind, Sem.run_pure, Result.andThen_ok, invoke, run_callFunc hcal]
    simp
  · rename_i l hg
    rw [hg] at hf
    have e := hf.yld_inv
    obtain ⟨rec, hrec, hsz, hround⟩ := h Mo m (a :: sv) w (n - 1) _ (rdOf m s) hR hargs
    refine ⟨fun _ _ => trivial, ?_⟩
    have hrun : (execOp a.eval o).run P w = .ok (.round (m.lp l) rec.fn ((rec.params.zip (c.args.map a.eval)).foldl (fun tmps (t, a) => tmps.setIfInBounds t a) rec.tmps) rec.assign rec.body) w := by
      simp only [execOp, hop, resolve, hc, e, Deferred.ofValue, Sem.run_bind, Sem.run_pure, Result.andThen_ok, invoke]
      have := run_yield (P := P) hrec hsz
      simpa using this
    rw [show (Wd (rdOf m s)).round = rdOf m s from rfl, Oper.semAt_eq (rdOf m s) a.eval o (fun d => by rw [hop]; exact fun e => by cases e), hrun]
    refine ⟨depth_none, hround.mono ?_⟩
    rintro e w' ⟨c', v, m', s', rfl, ⟨hn, hk⟩, hR', hv, hst, hrd⟩
    exact next_put' hK hR' hn hst hrd hv hk
  · exact h.elim

/-- **Each operation does what 'evOp' says.** -/
theorem evOp_sound (hR : Rel Mo m s (a :: sv) w) (hd : ∀ d, o.dst = some d → d < s.n) (hK : OpNext Mo m s o.dst a sv w k K) (h : evOp P (sems P) p o s k) : o.wpIn (Wd (rdOf m s)) n P a w K Q := by
  cases hop : o.op with
  | move x => exact op_move hR hd hK h hop
  | assign x => exact op_assign hR hd hK h hop
  | pick c x y => exact op_pick hR hd hK h hop
  | alloc t => exact op_alloc hR hd hK h hop
  | box t x => exact op_box hR hd hK h hop
  | build t ps => exact op_build hR hd hK h hop
  | buildSlice t l ps => exact op_buildSlice hR hd hK h hop
  | load t x => exact op_load hR hd hK h hop
  | store t x y => exact op_store hR hd hK h hop
  | nilCheck x => exact op_nilCheck hR hd hK h hop
  | binOp op t x y u => exact op_binOp hR hd hK h hop
  | unOp op t x => exact op_unOp hR hd hK h hop
  | convert t u x => exact op_convert hR hd hK h hop
  | makeFunc fn fi ca =>
    cases fn with
    | func f => exact op_makeFunc hR hd hK h hop
    | _ => simp [evOp, hop] at h
  | slice t x lo hi mx =>
    cases mx with
    | none => exact op_slice hR hd hK h hop
    | some y => simp [evOp, hop] at h
  | fieldAddr t x i => exact op_fieldAddr hR hd hK h hop
  | field t x i => exact op_field hR hd hK h hop
  | indexAddr t x i => exact op_indexAddr hR hd hK h hop
  | extract x i => exact op_extract hR hd hK h hop
  | call c =>
    cases hc : c.callee with
    | value f => exact op_call hR hK h hop hc
    | invoke r nm => simp [evOp, hop, hc] at h
    | builtin b =>
      cases b with
      | len => exact op_len hR hd hK h hop hc
      | append => exact op_append hR hd hK h hop hc
      | max => exact op_maxmin hR hd hK h hop hc (.inl rfl)
      | min => exact op_maxmin hR hd hK h hop hc (.inr rfl)
      | _ => simp [evOp, hop, hc] at h
  | _ => simp [evOp, hop] at h
end Go.Ab
