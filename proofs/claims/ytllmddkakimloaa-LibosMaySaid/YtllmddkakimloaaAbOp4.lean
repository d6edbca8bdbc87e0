import Derived.Test.YtllmddkakimloaaAbOp3
/-! Structs and slices built; len; append. -/
namespace Go.Ab
set_option linter.all false
open Go Go.RowKit
variable {P : Program} {o : Oper} {a : Act} {w : World} {K : Act → World → Prop} {Q : Exit → Act → World → Prop} {n : Nat} {Mo : Cells} {m : Mp} {s : Sa} {sv : List Act} {k : Sa → Prop} {p : Name} {S : Sems}

/-- Cells that mean the values. -/
structure CsOK (w : World) (M : Cells) (m : Mp) (vs : List V) (cs : Array Value) : Prop where
  size : cs.size = vs.length
  leafs : ∀ i, i < vs.length → leaf (cs.getD i undef) = true
  rep : ∀ i (hi : i < vs.length), RepV w M m vs[i] (cs.getD i undef)
theorem RepV.csOK {M : Cells} {v : V} {c : Value} (h : RepV w M m v c) (hd : isCells v = true) : CsOK w M m v.cells c.cells :=
  ⟨(h.cells hd).1, (h.cells hd).2.1, (h.cells hd).2.2⟩

def layL (l : List Value) (off : Nat) (cs : Array Value) : Array Value := (l.zipIdx.foldl (fun cs (x : Value × Nat) => cs.setIfInBounds (off + x.2) x.1) cs)
theorem layL_aux (off : Nat) (l : List Value) : ∀ (k : Nat) (cs : Array Value), off + k + l.length ≤ cs.size →
    ((l.zipIdx k).foldl (fun cs (x : Value × Nat) => cs.setIfInBounds (off + x.2) x.1) cs).size = cs.size ∧
    (∀ i, (i < off + k ∨ off + k + l.length ≤ i) → ((l.zipIdx k).foldl (fun cs (x : Value × Nat) => cs.setIfInBounds (off + x.2) x.1) cs)[i]? = cs[i]?) ∧
    (∀ j (hj : j < l.length), ((l.zipIdx k).foldl (fun cs (x : Value × Nat) => cs.setIfInBounds (off + x.2) x.1) cs)[off + k + j]? = some l[j]) := by
  induction l with
  | nil => intro k cs _; simp
  | cons v l ih =>
    intro k cs hle
    simp only [List.length_cons] at hle
    simp only [List.zipIdx_cons, List.foldl_cons]
    obtain ⟨h1, h2, h3⟩ := ih (k + 1) (cs.setIfInBounds (off + k) v) (by simp; omega)
    refine ⟨by simpa using h1, fun i hi => ?_, fun j hj => ?_⟩
    · simp only [List.length_cons] at hi
      rw [h2 i (by omega), Array.getElem?_setIfInBounds_ne (by omega)]
    · cases j with
      | zero =>
        simp only [Nat.add_zero, List.getElem_cons_zero]
        rw [h2 _ (by omega), Array.getElem?_setIfInBounds_self_of_lt (by omega)]
      | succ j =>
        simp only [List.getElem_cons_succ]
        have := h3 j (by simpa using hj)
        rw [← this]; congr 1; omega
theorem layL_spec {l : List Value} {off : Nat} {cs : Array Value} (hle : off + l.length ≤ cs.size) : (layL l off cs).size = cs.size ∧
    (∀ i, (i < off ∨ off + l.length ≤ i) → (layL l off cs)[i]? = cs[i]?) ∧ (∀ j (hj : j < l.length), (layL l off cs)[off + j]? = some l[j]) := layL_aux off l 0 cs hle
theorem fill_step (v : Value) (off : Nat) (cells : Array Value) :
    (v.cells.zipIdx.foldl (fun cs (c, j) => cs.setIfInBounds (off + j) c) cells) = layL v.cells.toList off cells := by
  unfold layL
  rw [← Array.foldl_toList, Array.toList_zipIdx]
theorem CsOK.lay {M : Cells} {vs : List V} {cs : Array Value} {v : V} {c : Value} (h : CsOK w M m vs cs) (hv : CsOK w M m v.cells c.cells) {off : Nat} (hle : off + v.cells.length ≤ vs.length) :
    CsOK w M m (vs.take off ++ v.cells ++ vs.drop (off + v.cells.length)) (layL c.cells.toList off cs) := by
  have hl : c.cells.toList.length = v.cells.length := by simpa using hv.size
  obtain ⟨h1, h2, h3⟩ := layL_spec (l := c.cells.toList) (off := off) (cs := cs) (by rw [hl, h.size]; exact hle)
  have hlen : (vs.take off ++ v.cells ++ vs.drop (off + v.cells.length)).length = vs.length := by simp; omega
  have key : ∀ i (hi : i < (vs.take off ++ v.cells ++ vs.drop (off + v.cells.length)).length),
      (∃ hi', (vs.take off ++ v.cells ++ vs.drop (off + v.cells.length))[i] = vs[i]'hi' ∧ (layL c.cells.toList off cs).getD i undef = cs.getD i undef) ∨
      (∃ hi', (vs.take off ++ v.cells ++ vs.drop (off + v.cells.length))[i] = v.cells[i - off]'hi' ∧ (layL c.cells.toList off cs).getD i undef = c.cells.getD (i - off) undef) := by
    intro i hi
    rw [hlen] at hi
    by_cases ho : i < off ∨ off + v.cells.length ≤ i
    · left
      refine ⟨hi, ?_, by simp only [Array.getD_eq_getD_getElem?]; rw [h2 i (by rw [hl]; exact ho)]⟩
      rcases ho with ho | ho
      · rw [List.getElem_append_left (by simp; omega), List.getElem_append_left (by simp; omega)]; simp
      · rw [List.getElem_append_right (by simp; omega)]
        simp only [List.length_append, List.length_take, List.getElem_drop]
        congr 1; omega
    · right
      refine ⟨by omega, ?_, ?_⟩
      · rw [List.getElem_append_left (by simp; omega), List.getElem_append_right (by simp; omega)]
        simp only [List.length_take]
        congr 1; omega
      · have := h3 (i - off) (by rw [hl]; omega)
        rw [show off + (i - off) = i from by omega] at this
        simp only [Array.getD_eq_getD_getElem?, this, Option.getD_some]
        rw [Array.getElem?_eq_getElem (by have := hv.size; omega)]; simp
  refine ⟨by rw [h1, h.size, hlen], fun i hi => ?_, fun i hi => ?_⟩
  · rcases key i hi with ⟨h', _, e⟩ | ⟨h', _, e⟩
    · rw [e]; exact h.leafs i h'
    · rw [e]; exact hv.leafs _ h'
  · rcases key i hi with ⟨h', e', e⟩ | ⟨h', e', e⟩
    · rw [e, e']; exact h.rep i h'
    · rw [e, e']; exact hv.rep _ h'
/-- The machine's filling and ours. -/
theorem fill_ok {M : Cells} {place place' : Nat → Option (Nat × Nat)} (hp : ∀ i, place i = place' i) :
    ∀ (parts : List (Nat × V)) (cparts : List (Nat × Value)) (vs : List V) (cs : Array Value) (out : List V), CsOK w M m vs cs →
      cparts.map (·.1) = parts.map (·.1) → (∀ i (h1 : i < parts.length) (h2 : i < cparts.length), RepV w M m (parts[i]).2 (cparts[i]).2) →
      fillV place vs parts = some out → ∃ cs', Instr.fill place' cs cparts = some cs' ∧ CsOK w M m out cs' := by
  intro parts
  induction parts with
  | nil =>
    intro cparts vs cs out h e _ hf
    simp only [List.map_nil, List.map_eq_nil_iff] at e; subst e
    simp only [fillV, Option.some.injEq] at hf; subst hf
    exact ⟨cs, rfl, h⟩
  | cons x parts ih =>
    intro cparts vs cs out h e hr hf
    obtain ⟨i, v⟩ := x
    cases cparts with
    | nil => simp at e
    | cons y cparts =>
      obtain ⟨i', c⟩ := y
      simp only [List.map_cons, List.cons.injEq] at e
      obtain ⟨rfl, e⟩ := e
      simp only [fillV] at hf
      have hv := hr 0 (by simp) (by simp)
      simp only [List.getElem_cons_zero] at hv
      simp only [Instr.fill, ← hp]
      split at hf
      · cases hf
      · rename_i off sz hpl
        simp only [hpl]
        split at hf
        · rename_i hc
          obtain ⟨c1, c2, c3⟩ := hc
          have hcs := hv.csOK c1
          rw [if_neg (by have := hcs.size; have := h.size; simp; omega)]
          rw [fill_step]
          refine ih cparts _ _ out ?_ e (fun j h1 h2 => hr (j + 1) (by simpa using h1) (by simpa using h2)) hf
          rw [← c2]
          exact h.lay hcs (by omega)
        · cases hf
theorem getD_map_size {n : Nat} {i : Nat} (hi : i < n) (x : Nat × Nat) : True := trivial

section
variable (hR : Rel Mo m s (a :: sv) w) (hd : ∀ d, o.dst = some d → d < s.n) (hK : OpNext Mo m s o.dst a sv w k K) (h : evOp P S p o s k)
include hR hd hK h

theorem op_build {t : TypeId} {parts : Array (Nat × Operand)} (hop : o.op = .build t parts) : o.wpIn (Wd (rdOf m s)) n P a w K Q := by
  simp only [evOp, hop] at h
  obtain ⟨hb, hc, h⟩ := h
  split at h
  · rename_i cs hcs
    obtain ⟨i, z, hi, hz, hcz⟩ : ∃ i z, P.info? t = some i ∧ i.zero = some z ∧ tzero P t = constV z := by
      unfold tzero at hc ⊢
      cases hi : P.info? t with
      | none => simp [hi, isCells] at hc
      | some i =>
        cases hz : i.zero with
        | none => simp [hi, hz, isCells] at hc
        | some z => exact ⟨i, z, rfl, hz, by simp [hz]⟩
    have hzero : (zeroValue t).run P w = .ok z w := by simp [zeroValue, typeInfo, hi, hz]
    rw [hcz] at hc hcs
    have h0 := (repV_const (w := w) (M := Tot Mo s.bx s.ow m) (m := m) z).csOK hc
    have hparts : ∀ i (h1 : i < (parts.toList.map fun x => (x.1, s.get x.2)).length) (h2 : i < (parts.map fun ((i, x) : Nat × Operand) => (i, a.eval x)).toList.length),
        RepV w (Tot Mo s.bx s.ow m) m ((parts.toList.map fun x => (x.1, s.get x.2))[i]).2 (((parts.map fun ((i, x) : Nat × Operand) => (i, a.eval x)).toList)[i]).2 := by
      intro i h1 h2
      simp only [List.getElem_map, Array.getElem_toList, Array.getElem_map]
      exact hR.operand _
    have hnames : (parts.map fun ((i, x) : Nat × Operand) => (i, a.eval x)).toList.map (·.1) = (parts.toList.map fun x => (x.1, s.get x.2)).map (·.1) := by
      simp [List.map_map, Function.comp_def]
    have hrun : ∃ cs', (Instr.build t (parts.map fun ((i, x) : Nat × Operand) => (i, a.eval x))).run P w = .ok (.agg cs') w ∧ CsOK w (Tot Mo s.bx s.ow m) m cs cs' := by
      cases hu : P.underlying t with
      | none => simp [tbuild, hu] at hb
      | some d =>
        cases d with
        | struct fs =>
          simp only [tbuild, hu, List.all_eq_true] at hb
          have hmap : (fs.mapM (fun f => (do pure (f.offset, ← sizeOf f.type) : Sem (Nat × Nat)))).run P w = .ok (fs.map fun f => (f.offset, tsz P f.type)) w := by
            have key : ∀ (l : List Field), (∀ f ∈ l, (P.info? f.type).isSome = true) → ∀ (acc : Array (Nat × Nat)),
                (l.foldlM (fun bs f => (do let b ← (do pure (f.offset, ← sizeOf f.type) : Sem (Nat × Nat)); pure (bs.push b) : Sem _)) acc).run P w = .ok (acc ++ (l.map fun f => (f.offset, tsz P f.type)).toArray) w := by
              intro l
              induction l with
              | nil => intro _ acc; simp
              | cons f l ih =>
                intro hl acc
                obtain ⟨j, hj⟩ := Option.isSome_iff_exists.1 (hl f (by simp))
                simp only [List.foldlM_cons, Sem.run_bind]
                have e1 : (sizeOf f.type).run P w = .ok (tsz P f.type) w := by simp [sizeOf, typeInfo, hj, tsz]
                simp only [e1, Result.andThen_ok, Sem.run_pure]
                rw [ih (fun f hf => hl f (by simp [hf]))]
                simp
            rw [Array.mapM_eq_foldlM, ← Array.foldlM_toList]
            have := key fs.toList hb #[]
            have e2 : (fs.map fun f => (f.offset, tsz P f.type)) = #[] ++ (fs.toList.map fun f => (f.offset, tsz P f.type)).toArray := by apply Array.ext'; simp
            rw [e2]; exact this
          obtain ⟨cs', hf, hok⟩ := fill_ok (place' := ((fs.map fun f => (f.offset, tsz P f.type))[·]?)) (fun i => by simp [tplace, hu]) _ _ _ _ _ h0 hnames hparts hcs
          refine ⟨cs', ?_, hok⟩
          simp only [Instr.build, Sem.run_bind, hzero, Result.andThen_ok, run_underlying hu, hmap, hf]; rfl
        | array nn e =>
          simp only [tbuild, hu] at hb
          obtain ⟨j, hj⟩ := Option.isSome_iff_exists.1 hb
          have e1 : (sizeOf e).run P w = .ok (tsz P e) w := by simp [sizeOf, typeInfo, hj, tsz]
          obtain ⟨cs', hf, hok⟩ := fill_ok (place' := fun i => some (i * tsz P e, tsz P e)) (fun i => by simp [tplace, hu]) _ _ _ _ _ h0 hnames hparts hcs
          refine ⟨cs', ?_, hok⟩
          simp only [Instr.build, Sem.run_bind, hzero, Result.andThen_ok, run_underlying hu, e1, hf]; rfl
        | _ => simp [tbuild, hu] at hb
    obtain ⟨cs', hrun, hok⟩ := hrun
    exact op_value (w' := w) (by simp [hop]) (by simp only [execOp, hop]; exact execOp_v hrun) (next_put hR hd hK (repV_mkAgg hok.size hok.leafs hok.rep) h)
  · exact h.elim
end
end Go.Ab
