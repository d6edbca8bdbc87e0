import Derived.Test.YtllmddkakimloaaAbCode
/-! A function is entered; its results; a function on data alone. -/
namespace Go.Ab
set_option linter.all false
open Go Go.RowKit
variable {P : Program} {w : World} {n : Nat} {Mo : Cells} {m : Mp} {s : Sa} {as : List Act} {p : Name}

/-- The results' values, then what follows. -/
def resK (P : Program) (s : Sa) : List ResultVar → (List V → Prop) → Prop
  | [], k => k []
  | .tmp t :: rs, k => resK P s rs fun vs => k (lkT t s.ts :: vs)
  | .cell a t :: rs, k => match tagg P t with
    | some ag => (ag = false → tsz P t ≠ 0) ∧ match lkT a s.ts with
      | .ptr nm off => match lookN nm s.bx with
        | some c => off + tsz P t ≤ c.cells.length ∧ resK P s rs fun vs => k (loadBox ag off (tsz P t) c :: vs)
        | none => False
      | _ => False
    | none => False
def mkRes : List V → V
  | [v] => v
  | vs => .tup vs
def Sa.pop (s : Sa) : Sa := match s.sv with
  | f :: fs => { rd := f.rd, n := f.n, ts := f.ts, sv := fs, bx := s.bx, lp := s.lp, ow := s.ow }
  | [] => s
def argTs : Nat → List V → List (Nat × V)
  | _, [] => []
  | i, v :: vs => (i, v) :: argTs (i + 1) vs
def Sa.push (s : Sa) (n : Nat) (ts : List (Nat × V)) : Sa := { rd := none, n := n, ts := ts, sv := { rd := s.rd, n := s.n, ts := s.ts } :: s.sv, bx := s.bx, lp := s.lp, ow := s.ow }

theorem look_argTs (vs : List V) : ∀ (i t : Nat), lkT t (argTs i vs) = if h : i ≤ t ∧ t - i < vs.length then vs[t - i] else .dead := by
  induction vs with
  | nil => intro i t; simp [argTs, lkT]
  | cons v vs ih =>
    intro i t
    simp only [argTs, lkT]
    by_cases e : i = t
    · subst e; simp
    · simp only [e, if_false, ih]
      by_cases h : i + 1 ≤ t ∧ t - (i + 1) < vs.length
      · have h' : i ≤ t ∧ t - i < (v :: vs).length := ⟨by omega, by simp; omega⟩
        rw [dif_pos h, dif_pos h']
        have e2 : t - i = (t - (i + 1)) + 1 := by omega
        simp only [e2, List.getElem_cons_succ]
      · have h' : ¬ (i ≤ t ∧ t - i < (v :: vs).length) := fun hx => h ⟨by omega, by have := hx.2; simp at this; omega⟩
        rw [dif_neg h, dif_neg h']

theorem Rel.push (h : Rel Mo m s as w) (nt : Nat) {args : List V} {vs : Array Value} (ha : ArgsOK w (Tot Mo s.bx s.ow m) m args vs) (hle : args.length ≤ nt) :
    Rel Mo m (s.push nt (argTs 0 args)) ({ tmps := vs ++ Array.replicate (nt - vs.size) undef, defers := [] } :: as) w := by
  refine ⟨by simp [Sa.push, h.len], ?_, h.box, h.inj, h.oww, h.owx, h.owb, ?_, ?_, h.lpi, h.mo, ?_, h.owm⟩
  · intro i hi hi'
    cases i with
    | zero =>
      refine ⟨by simp [Sa.push, ha.1]; omega, fun t => ?_, fun d hd => by simp at hd⟩
      simp only [Sa.push, List.getElem_cons_zero]
      rw [look_argTs]
      split
      · rename_i hx
        have := ha.2 t (by simpa using hx.2)
        simp only [Nat.sub_zero]
        rw [Array.getD_eq_getD_getElem?] at this ⊢
        rw [Array.getElem?_append_left (by rw [ha.1]; simpa using hx.2)]; exact this
      · exact .dead
    | succ i => exact h.fr i (by simpa [Sa.push] using hi) (by simpa using hi')
  · intro l q hl
    obtain ⟨r, a, hr⟩ := h.lps l q hl
    refine ⟨r, a, ⟨hr.heap, hr.ps, hr.assign, hr.body, ?_, hr.tmps, hr.stat⟩⟩
    have := hr.own
    have hd := h.dep l q hl
    rw [List.reverse_cons, List.getElem?_append_left (by simp; omega)]; exact this
  · intro l q hl
    have := h.dep l q hl
    simp; omega
  · have := h.mks
    simpa [marks] using this

theorem Rel.pop {a : Act} (h : Rel Mo m s (a :: as) w) (hne : s.sv ≠ []) (hdep : ∀ l q, lookN l s.lp = some q → q.depth + 1 < as.length) : Rel Mo m s.pop as w := by
  cases hsv : s.sv with
  | nil => exact absurd hsv hne
  | cons f fs =>
    have e : s.pop = { rd := f.rd, n := f.n, ts := f.ts, sv := fs, bx := s.bx, lp := s.lp, ow := s.ow } := by simp [Sa.pop, hsv]
    rw [e]
    have hl := h.len
    rw [hsv] at hl
    simp only [List.length_cons] at hl
    refine ⟨by simp only; omega, ?_, h.box, h.inj, h.oww, h.owx, h.owb, ?_, hdep, h.lpi, h.mo, ?_, h.owm⟩
    · intro i hi hi'
      have := h.fr (i + 1) (by rw [hsv]; simpa using hi) (by simpa using hi')
      simp only [List.getElem_cons_succ] at this
      have e2 : s.sv[i]'(by rw [hsv]; simpa using hi) = (f :: fs)[i]'(by simpa using hi) := by simp [hsv]
      rw [e2] at this
      cases i with
      | zero => exact this
      | succ i => exact this
    · intro l q hl
      obtain ⟨r, b, hr⟩ := h.lps l q hl
      refine ⟨r, b, ⟨hr.heap, hr.ps, hr.assign, hr.body, ?_, hr.tmps, hr.stat⟩⟩
      have := hr.own
      have hd := hdep l q hl
      rw [List.reverse_cons, List.getElem?_append_left (by simp; omega)] at this; exact this
    · have := h.mks
      simp only [marks, List.flatMap_cons, List.nodup_append] at this
      exact this.2.1

def resF (tmps : Array Value) : ResultVar → Sem Value
  | .tmp t => pure (tmps.getD t undef)
  | .cell a t => do loadVar t (← asAddr (tmps.getD a undef))
theorem results_eq (fn : Func) (tmps : Array Value) : results fn tmps = (do let vs ← fn.results.mapM (resF tmps); pure (if h : vs.size = 1 then vs[0] else .tuple vs)) := rfl
/-- The results are read. -/
theorem run_results {a : Act} (h : Rel Mo m s (a :: as) w) : ∀ (rs : List ResultVar) (K : List V → Prop), resK P s rs K →
    ∃ vs cs, K vs ∧ (rs.mapM (resF a.tmps)).run P w = .ok cs w ∧ cs.length = vs.length ∧ ∀ i (h1 : i < vs.length) (h2 : i < cs.length), RepV w (Tot Mo s.bx s.ow m) m vs[i] cs[i] := by
  intro rs
  induction rs with
  | nil => intro K hK; exact ⟨[], [], hK, by simp, rfl, by simp⟩
  | cons r rs ih =>
    intro K hK
    cases r with
    | tmp t =>
      obtain ⟨vs, cs, k1, k2, k3, k4⟩ := ih _ hK
      refine ⟨lkT t s.ts :: vs, a.tmps.getD t undef :: cs, k1, by simp only [List.mapM_cons, Sem.run_bind, resF, Sem.run_pure, Result.andThen_ok]; rw [k2]; rfl, by simp [k3], fun i h1 h2 => ?_⟩
      cases i with
      | zero => exact h.get t
      | succ i => exact k4 i (by simpa using h1) (by simpa using h2)
    | cell b t =>
      simp only [resK] at hK
      split at hK
      · rename_i ag hag
        obtain ⟨hz, hK⟩ := hK
        split at hK
        · rename_i nm off hb
          split at hK
          · rename_i c hc
            obtain ⟨hle, hK⟩ := hK
            obtain ⟨vs, cs, k1, k2, k3, k4⟩ := ih _ hK
            have hv := h.get b
            rw [hb] at hv
            obtain ⟨ds, T, hbx⟩ := h.box nm c hc
            have hload := run_loadVar (P := P) (fun j => ds.getD (off + j) undef) hag hz (b := m.bx nm) (off := off) (w := w) (fun j hj => by
              rw [cell_of_block hbx.heap, Array.getD_eq_getD_getElem?, Array.getElem?_eq_getElem (by have := hbx.size; omega)]; rfl)
            refine ⟨loadBox ag off (tsz P t) c :: vs, _ :: cs, k1, by
              simp only [List.mapM_cons, Sem.run_bind, resF, hv.ptr_inv]; simp only [asAddr, Sem.run_pure, Result.andThen_ok, hload]; rw [k2]; rfl, by simp [k3], fun i h1 h2 => ?_⟩
            cases i with
            | zero => exact repV_loadBox (f := fun j => ds.getD (off + j) undef) hle hz (fun j hj => hbx.leafs _ (by omega)) (fun j hj => hbx.rep _ (by omega))
            | succ i => exact k4 i (by simpa using h1) (by simpa using h2)
          · exact hK.elim
        · exact hK.elim
      · exact hK.elim
theorem run_results' {a : Act} {fn : Func} (h : Rel Mo m s (a :: as) w) (K : List V → Prop) (hK : resK P s fn.results.toList K) :
    ∃ vs c, K vs ∧ (results fn a.tmps).run P w = .ok c w ∧ RepV w (Tot Mo s.bx s.ow m) m (mkRes vs) c := by
  obtain ⟨vs, cs, k1, k2, k3, k4⟩ := run_results h fn.results.toList K hK
  refine ⟨vs, if cs.length = 1 then cs.getD 0 undef else .tuple cs.toArray, k1, ?_, ?_⟩
  · rw [results_eq]
    simp only [Sem.run_bind]
    have e : fn.results.mapM (resF a.tmps) = (fun l => l.toArray) <$> fn.results.toList.mapM (resF a.tmps) := by
      rw [← List.mapM_toArray]
    rw [e]
    simp only [Sem.run_map]
    rw [k2]
    simp only [Result.andThen_ok, Sem.run_pure]
    congr 1
    by_cases h1 : cs.length = 1
    · obtain ⟨c, rfl⟩ := List.length_eq_one_iff.1 h1; simp
    · simp [h1]
  · by_cases h1 : cs.length = 1
    · rw [if_pos h1]
      obtain ⟨c, rfl⟩ := List.length_eq_one_iff.1 h1
      obtain ⟨v, rfl⟩ := List.length_eq_one_iff.1 (by rw [← k3]; exact h1)
      exact k4 0 (by simp) (by simp)
    · rw [if_neg h1]
      have : mkRes vs = .tup vs := by
        unfold mkRes
        split
        · simp at k3; exact absurd k3 h1
        · rfl
      rw [this]
      exact .tup (by simpa using k3) (fun i hi => by
        have := k4 i hi (by omega)
        simpa [Array.getD_eq_getD_getElem?, List.getElem?_eq_getElem (show i < cs.length by omega)] using this)
end Go.Ab
