import Derived.Test.YtllmddkakimloaaAbOp6
/-! append. -/
namespace Go.Ab
set_option linter.all false
open Go Go.RowKit
variable {P : Program} {o : Oper} {a : Act} {w : World} {K : Act → World → Prop} {Q : Exit → Act → World → Prop} {n : Nat} {Mo : Cells} {m : Mp} {s : Sa} {sv : List Act} {k : Sa → Prop} {p : Name} {S : Sems}

structure ListOK (w : World) (M : Cells) (ys : List D) (sz : Nat) (L : List Value) : Prop where
  len : L.length = ys.length * sz
  row : ∀ y ∈ ys, y.cells.length = sz
  leafs : ∀ v ∈ L, leaf v = true
  rep : ∀ i (hi : i < ys.length) j (hj : j < ys[i].cells.length), RepD w M (ys[i].cells)[j] (L.getD (i * sz + j) undef)
theorem mul_lt {i n sz j : Nat} (hi : i < n) (hj : j < sz) : i * sz + j < n * sz := by
  have : (i + 1) * sz ≤ n * sz := Nat.mul_le_mul_right _ hi
  rw [Nat.add_mul] at this; omega
theorem run_firstCells {M : Cells} {ys : List D} {c : Value} {sz : Nat} (h : RepD w M (.sl ys) c) (hr : ∀ y ∈ ys, y.cells.length = sz) (hz : sz ≠ 0) :
    ∃ L, (∀ w' : World, w'.heap = w.heap → (Builtin.firstCells sz ys.length c).run P w' = .ok L.toArray w') ∧ ListOK w M ys sz L ∧
      ∀ q, q < L.length → ∃ ad cap, c = .slice (some ad) ys.length cap ∧ ad.spot = none ∧ w.cell? ⟨ad.block, ad.off + q, none⟩ = some (L.getD q undef) ∧ ¬ M ad.block (ad.off + q) := by
  obtain ⟨ad, cap, sz', b, off, cv, ec, hc1, hc2, ha, hsz, hcell, hrep⟩ := h.sl_inv
  subst ec
  cases ys with
  | nil =>
    refine ⟨[], fun w' _ => ?_, ⟨by simp, by simp, by simp, by simp⟩, by simp⟩
    cases ad with
    | none => simp [Builtin.firstCells]
    | some ad =>
      simp only [Builtin.firstCells, List.length_nil, Nat.zero_mul]
      simp [loadCells, loadCellsFrom]
  | cons y ys =>
    have hne : y :: ys ≠ [] := by simp
    have e1 : sz' = sz := by rw [← hsz 0 (by simp)]; exact hr _ (by simp)
    subst e1
    rw [ha hne]
    have hdm : ∀ q, q < (y :: ys).length * sz' → q / sz' < (y :: ys).length ∧ q % sz' < sz' := fun q hq => ⟨by rw [Nat.div_lt_iff_lt_mul (Nat.pos_of_ne_zero hz)]; exact hq, Nat.mod_lt _ (Nat.pos_of_ne_zero hz)⟩
    refine ⟨(List.range ((y :: ys).length * sz')).map (fun q => cv (q / sz') (q % sz')), fun w' hw' => ?_, ?_, fun q hq => ?_⟩
    · simp only [Builtin.firstCells]
      refine run_loadCells w' _ _ _ (fun q hq => ?_)
      rw [addr_add, World.cell?_of_block (w := w) (by rw [hw'])]
      obtain ⟨h1, h2⟩ := hdm q hq
      have := (hcell (q / sz') h1 (q % sz') (by rw [hsz _ h1]; exact h2)).1
      rw [← this]; congr 2
      have := Nat.div_add_mod q sz'
      rw [Nat.mul_comm] at this; omega
    · have hg : ∀ i (hi : i < (y :: ys).length) j, j < sz' → ((List.range ((y :: ys).length * sz')).map (fun q => cv (q / sz') (q % sz'))).getD (i * sz' + j) undef = cv i j := by
        intro i hi j hj
        have := mul_lt hi hj
        rw [List.getD_eq_getElem?_getD, List.getElem?_map, List.getElem?_range this]
        simp only [Option.map_some, Option.getD_some]
        have hp : 0 < sz' := Nat.pos_of_ne_zero hz
        rw [show (i * sz' + j) / sz' = i from by rw [Nat.add_comm, Nat.add_mul_div_right _ _ hp, Nat.div_eq_of_lt hj]; omega,
          show (i * sz' + j) % sz' = j from by rw [Nat.add_comm, Nat.add_mul_mod_self_right, Nat.mod_eq_of_lt hj]]
      refine ⟨by simp, hr, fun v hv => ?_, fun i hi j hj => ?_⟩
      · simp only [List.mem_map, List.mem_range] at hv
        obtain ⟨q, hq, rfl⟩ := hv
        obtain ⟨h1, h2⟩ := hdm q hq
        exact (hcell _ h1 _ (by rw [hsz _ h1]; exact h2)).2.1
      · rw [hg i hi j (by rw [← hsz i hi]; exact hj)]
        exact hrep i hi j hj

    · simp only [List.length_map, List.length_range] at hq
      obtain ⟨h1, h2⟩ := hdm q hq
      refine ⟨_, cap, rfl, rfl, ?_⟩
      have h3 := hcell (q / sz') h1 (q % sz') (by rw [hsz _ h1]; exact h2)
      have e2 : off + q / sz' * sz' + q % sz' = off + q := by
        have := Nat.div_add_mod q sz'
        rw [Nat.mul_comm] at this; omega
      rw [e2] at h3
      refine ⟨?_, h3.2.2⟩
      rw [List.getD_eq_getElem?_getD, List.getElem?_map, List.getElem?_range hq]
      exact h3.1

/-- What append leaves: the old cells and the new ones, in place or in a new block. -/
theorem run_append {t u e : TypeId} {ty : TypeId} {ts : Array TypeId} {args : Array Value} {base : Option Addr} {len cap : Nat} {y : Value} {ny : Nat} {L old : List Value} {z : Value}
    (ht : ts[0]? = some t) (hu : ts[1]? = some u) (hut : P.underlying t = some (.slice e)) (huu : P.underlying u = some (.slice e)) (hez : tsz P e ≠ 0)
    (hz : ∃ i, P.info? e = some i ∧ i.zero = some z)
    (h0 : args[0]? = some (.slice base len cap)) (h1 : args[1]? = some y) (hny : (Builtin.lenOf y).run P w = .ok ny w)
    (hb : (len + ny) * tbytes P e ≤ 140737488355328) (hmx : len + ny ≤ 9223372036854775807)
    (hnew : ∀ w', w'.heap = w.heap → (Builtin.firstCells (tsz P e) ny y).run P w' = .ok L.toArray w')
    (hold : ∀ w', w'.heap = w.heap → (Builtin.firstCells (tsz P e) len (.slice base len cap)).run P w' = .ok old.toArray w')
    (hstore : len + ny ≤ cap → ∀ ad, base = some ad → (storeCells (ad.add (len * tsz P e)) L).run P w = .ok () (putCells w ad.block (ad.off + len * tsz P e) L)) :
    (len + ny ≤ cap ∧ (Builtin.append_ ts ty args).run P w = .ok (.slice base (len + ny) cap) (match base with | some ad => putCells w ad.block (ad.off + len * tsz P e) L | none => w)) ∨
    (cap < len + ny ∧ ∃ nc rest, len + ny ≤ nc ∧ (Builtin.append_ ts ty args).run P w = .ok (.slice (some ⟨w.heap.size, 0, none⟩) (len + ny) nc) (w.drew.alloc (.cells (old.toArray ++ L.toArray ++ rest) e)) ∧ rest.size = (nc - (len + ny)) * z.cells.size) := by
  have hsz := run_sizeOf_ne (w := w) hez
  obtain ⟨i, hi, hiz⟩ := hz
  by_cases hc : len + ny ≤ cap
  · left
    refine ⟨hc, ?_⟩
    simp only [Builtin.append_, ht, hu, h0, h1, Sem.run_bind, run_underlying hut, run_underlying huu, Result.andThen_ok, hsz, Sem.run_pure]
    simp only [Bool.false_eq_true, if_false, hny, Result.andThen_ok, Sem.run_bind]
    rw [if_pos hc]
    simp only [Bool.not_false, if_true, Sem.run_bind, hnew w rfl, Result.andThen_ok]
    cases base with
    | none => simp
    | some ad =>
      have := hstore hc ad rfl
      simp only [Sem.run_bind, this, Result.andThen_ok, Sem.run_pure]
  · right
    refine ⟨by omega, ?_⟩
    have hti : ∀ w', (typeInfo e).run P w' = .ok i w' := fun w' => by simp [typeInfo, hi]
    have hib : i.bytes = tbytes P e := by simp [tbytes, hi]
    have hzr : ∀ w', (zeroValue e).run P w' = .ok z w' := fun w' => by simp [zeroValue, typeInfo, hi, hiz]
    have hmax : ¬ (((len + ny : Nat) : Int) > IntKind.i64.max ∧ (False ∨ i.bytes = 0)) := fun hx => by
      have := hx.1
      simp only [IntKind.max, IntKind.signed, IntKind.bits, if_true] at this
      omega
    have hnc : ¬ (Builtin.nextslicecap (len + ny) cap * i.bytes > 2 ^ 48) := by
      have h1 := nextcap_le (need := len + ny) (cap := cap) (by omega)
      have h2 : Builtin.nextslicecap (len + ny) cap * i.bytes ≤ 2 * (len + ny) * i.bytes := Nat.mul_le_mul_right _ h1
      rw [Nat.mul_assoc, hib] at h2
      rw [hib]; omega
    refine ⟨(Question.appendCap (len + ny) cap e).cut (w.tape w.drawn (Question.appendCap (len + ny) cap e)), Builtin.zeroCells z.cells ((Question.appendCap (len + ny) cap e).cut (w.tape w.drawn (Question.appendCap (len + ny) cap e)) - (len + ny)), by simp [Question.cut], ?_, by simp [Builtin.zeroCells]⟩
    simp only [Builtin.append_, ht, hu, h0, h1, Sem.run_bind, run_underlying hut, run_underlying huu, Result.andThen_ok, hsz, Sem.run_pure]
    simp only [Bool.false_eq_true, if_false, hny, Result.andThen_ok, Sem.run_bind]
    rw [if_neg hc]
    simp only [Sem.run_bind, hti, Result.andThen_ok]
    rw [if_neg hmax]
    simp only [Sem.run_bind, hti, Result.andThen_ok]
    rw [if_neg hnc]
    simp only [Sem.run_bind, run_choose, Question.forced, Bool.false_eq_true, if_false, Result.andThen_ok, hti, run_askRoom, Bool.not_false, if_true, World.drew_eq, hold w.drew rfl, hnew w.drew rfl, hzr, newRow, run_newObj, World.alloc_eq, Sem.run_pure]
    rfl
end Go.Ab
