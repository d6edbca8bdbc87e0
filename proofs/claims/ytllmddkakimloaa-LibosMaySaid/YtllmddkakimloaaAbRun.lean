import Derived.Test.YtllmddkakimloaaAbRel3
/-! Runs of the machine's small operations. -/
namespace Go.Ab
set_option linter.all false
open Go Go.RowKit
variable {P : Program} {w : World}

theorem info_of_underlying {t : TypeId} {d : TypeDesc} (h : P.underlying t = some d) : ∃ i, P.info? t = some i := by
  unfold Program.underlying at h
  cases hi : P.info? t with
  | none => simp [hi] at h
  | some i => exact ⟨i, rfl⟩
theorem run_sizeOf' {t : TypeId} {d : TypeDesc} (h : P.underlying t = some d) : (sizeOf t).run P w = .ok (tsz P t) w := by
  obtain ⟨i, hi⟩ := info_of_underlying h
  simp [sizeOf, typeInfo, hi, tsz]
theorem tagg_underlying {t : TypeId} {b : Bool} (h : tagg P t = some b) : ∃ d, P.underlying t = some d ∧ (b = true ↔ ((∃ f, d = .struct f) ∨ ∃ n e, d = .array n e)) := by
  unfold tagg at h
  split at h <;> simp_all
theorem run_isAgg {t : TypeId} {b : Bool} (h : tagg P t = some b) : (isAgg t).run P w = .ok b w := by
  obtain ⟨d, hd, hb⟩ := tagg_underlying h
  simp only [isAgg, Sem.run_bind, run_underlying hd, Result.andThen_ok]
  cases d <;> cases b <;> simp_all
theorem leaf_oneCell {v : Value} (h : leaf v = true) : v.oneCell' = true := by
  cases v <;> simp_all [leaf, Value.oneCell']
theorem addr_add (b off i : Nat) : (⟨b, off, none⟩ : Addr).add i = ⟨b, off + i, none⟩ := by
  unfold Addr.add; split <;> simp_all
theorem run_loadVar {t : TypeId} {ag : Bool} {b off : Nat} (f : Nat → Value) (h : tagg P t = some ag) (hsz : ag = false → tsz P t ≠ 0)
    (hc : ∀ j, j < tsz P t → w.cell? ⟨b, off + j, none⟩ = some (f j)) :
    (loadVar t ⟨b, off, none⟩).run P w = .ok (if ag then .agg ((List.range (tsz P t)).map f).toArray else f 0) w := by
  obtain ⟨d, hd, _⟩ := tagg_underlying h
  simp only [loadVar, Sem.run_bind, run_isAgg h, Result.andThen_ok]
  cases ag with
  | true =>
    simp only [if_true, Sem.run_bind, run_sizeOf' hd, Result.andThen_ok]
    rw [run_loadCells w _ _ f (fun j hj => by rw [addr_add]; exact hc j hj)]
    simp
  | false =>
    simp only [Bool.false_eq_true, if_false]
    have := hc 0 (Nat.pos_of_ne_zero (hsz rfl))
    simp only [Nat.add_zero] at this
    rw [run_load]; simp [this]

/-! ### Writing a row of cells -/
def putCells (w : World) (b off : Nat) : List Value → World
  | [] => w
  | v :: vs => putCells (w.setCell ⟨b, off, none⟩ v) b (off + 1) vs
/-- One block's cells become others. -/
def World.setBlock' (w : World) (b : Nat) (c : Array Value) (T : TypeId) : World := { w with heap := w.heap.setIfInBounds b (.cells c T (0, 0)) }
theorem setCell_block {b off : Nat} {v : Value} {c : Array Value} {T : TypeId} (h : w.heap[b]? = some (.cells c T (0, 0))) :
    (w.setCell ⟨b, off, none⟩ v).heap[b]? = some (.cells (c.setIfInBounds off v) T (0, 0)) := by
  simp [World.setCell, Array.getElem?_modify, h]
theorem setCell_other {b off k : Nat} {v : Value} (h : k ≠ b) : (w.setCell ⟨b, off, none⟩ v).heap[k]? = w.heap[k]? := Below.heap_setCell w ⟨b, off, none⟩ v k h
theorem cell_of_block {b o : Nat} {c : Array Value} {T : TypeId} {f : Nat × Nat} (h : w.heap[b]? = some (.cells c T f)) : w.cell? ⟨b, o, none⟩ = c[o]? := by
  simp [World.cell?, h]
theorem frozen_of_block {b o : Nat} {c : Array Value} {T : TypeId} (h : w.heap[b]? = some (.cells c T (0, 0))) : w.frozen? ⟨b, o, none⟩ = false := by
  simp [World.frozen?, h]
theorem run_storeCells (vs : List Value) (hl : ∀ v ∈ vs, leaf v = true) : ∀ (w : World) (b off i : Nat) (c : Array Value) (T : TypeId),
    w.heap[b]? = some (.cells c T (0, 0)) → off + i + vs.length ≤ c.size →
    (storeCells ⟨b, off, none⟩ vs i).run P w = .ok () (putCells w b (off + i) vs) := by
  induction vs with
  | nil => intro w b off i c T _ _; simp [storeCells, putCells]
  | cons v vs ih =>
    intro w b off i c T hb hle
    simp only [List.length_cons] at hle
    simp only [storeCells, Sem.run_bind, addr_add, putCells]
    rw [run_store P w _ v .plain (leaf_oneCell (hl v (by simp)))]
    have hc : w.cell? ⟨b, off + i, none⟩ = some (c[off + i]'(by omega)) := by
      rw [cell_of_block hb, Array.getElem?_eq_getElem]
    simp only [hc, frozen_of_block hb, Bool.false_eq_true, if_false, Result.andThen_ok]
    rw [ih (fun v hv => hl v (by simp [hv])) _ b off (i + 1) _ T (setCell_block hb) (by simp; omega)]
    rw [Nat.add_assoc]
theorem putCells_spec (vs : List Value) : ∀ (w : World) (b off : Nat) (c : Array Value) (T : TypeId), w.heap[b]? = some (.cells c T (0, 0)) → off + vs.length ≤ c.size →
    ∃ c', (putCells w b off vs).heap[b]? = some (.cells c' T (0, 0)) ∧ c'.size = c.size ∧ (∀ o, (o < off ∨ off + vs.length ≤ o) → c'[o]? = c[o]?) ∧
      (∀ j (hj : j < vs.length), c'[off + j]? = some vs[j]) ∧ (∀ k, k ≠ b → (putCells w b off vs).heap[k]? = w.heap[k]?) ∧
      (putCells w b off vs).os = w.os ∧ (putCells w b off vs).tape = w.tape ∧ (putCells w b off vs).output = w.output ∧ (putCells w b off vs).heap.size = w.heap.size := by
  induction vs with
  | nil => intro w b off c T hb _; exact ⟨c, hb, rfl, fun _ _ => rfl, by simp, fun _ _ => rfl, rfl, rfl, rfl, rfl⟩
  | cons v vs ih =>
    intro w b off c T hb hle
    simp only [List.length_cons] at hle
    obtain ⟨c', h1, h2, h3, h4, h5, h6, h7, h8, h9⟩ := ih (w.setCell ⟨b, off, none⟩ v) b (off + 1) _ T (setCell_block hb) (by simp; omega)
    refine ⟨c', h1, by simpa using h2, fun o ho => ?_, fun j hj => ?_, fun k hk => (h5 k hk).trans (setCell_other hk), h6, h7, h8, by rw [putCells, h9, World.size_setCell]⟩
    · simp only [List.length_cons] at ho
      rw [h3 o (by omega), Array.getElem?_setIfInBounds_ne (by omega)]
    · cases j with
      | zero =>
        simp only [Nat.add_zero, List.getElem_cons_zero]
        rw [h3 off (by omega), Array.getElem?_setIfInBounds_self_of_lt (by omega)]
      | succ j =>
        have := h4 j (by simpa using hj)
        simp only [List.getElem_cons_succ]
        rw [← this]; congr 1; omega

/-! ### Cells of a value -/
theorem RepV.cells {M m v c} (h : RepV w M m v c) (hd : isCells v = true) : c.cells.size = v.cells.length ∧
    (∀ i, i < v.cells.length → leaf (c.cells.getD i undef) = true) ∧ ∀ i (hi : i < v.cells.length), RepV w M m v.cells[i] (c.cells.getD i undef) := by
  have one : ∀ (v : V) (c : Value), RepV w M m v c → v.cells = [v] → c.cells = #[c] → leaf c = true → c.cells.size = v.cells.length ∧
      (∀ i, i < v.cells.length → leaf (c.cells.getD i undef) = true) ∧ ∀ i (hi : i < v.cells.length), RepV w M m v.cells[i] (c.cells.getD i undef) := by
    intro v c h e1 e2 hl
    refine ⟨by simp [e1, e2], fun i hi => ?_, fun i hi => ?_⟩
    · have : i = 0 := by simp [e1] at hi; exact hi
      subst this; simp [e2, hl]
    · have : i = 0 := by simp [e1] at hi; exact hi
      subst this; simp only [e1, e2]; exact h
  cases h with
  | d h =>
    cases h with
    | v h => exact one _ _ (.d (.v h)) rfl (by cases c <;> simp_all [okLeaf, Value.cells]) (by cases c <;> simp_all [okLeaf, leaf])
    | agg hs hl hr => exact ⟨by simpa [Value.cells, V.cells] using hs, fun i hi => hl i (by simpa [V.cells] using hi), fun i hi => by
        simp only [V.cells, List.getElem_map, Value.cells]; exact .d (hr i (by simpa [V.cells] using hi))⟩
    | sl sz b off cv h1 h2 h3 h4 h5 h6 => exact one _ _ (.d (.sl sz b off cv h1 h2 h3 h4 h5 h6)) rfl rfl rfl
  | nil => exact one _ _ .nil rfl rfl rfl
  | own h hsz hs =>
    refine one _ _ (.own h hsz hs) rfl ?_ ?_
    · cases h; rfl
    · cases h; rfl
  | ptr => exact one _ _ .ptr rfl rfl rfl
  | ref b off cv h1 h2 => exact one _ _ (.ref b off cv h1 h2) rfl rfl rfl
  | fn hs h => exact one _ _ (.fn hs h) rfl rfl rfl
  | yld => exact one _ _ .yld rfl rfl rfl
  | agg hs hl h => exact ⟨by simpa [Value.cells, V.cells] using hs, hl, h⟩
  | tup hs h => simp [isCells] at hd
  | dead => simp [isCells] at hd
end Go.Ab
