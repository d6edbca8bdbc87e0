import Derived.Test.YtllmddkakimloaaAbOp4
/-! Slices built and appended to. -/
namespace Go.Ab
set_option linter.all false
open Go Go.RowKit
variable {P : Program} {o : Oper} {a : Act} {w : World} {K : Act → World → Prop} {Q : Exit → Act → World → Prop} {n : Nat} {Mo : Cells} {m : Mp} {s : Sa} {sv : List Act} {k : Sa → Prop} {p : Name} {S : Sems}

/-- A row of cells in a block is a list of elements. -/
structure RowOK (w : World) (M : Cells) (xs : List D) (sz b off : Nat) (cv : Nat → Nat → Value) : Prop where
  len : ∀ i (hi : i < xs.length), xs[i].cells.length = sz
  cell : ∀ i (hi : i < xs.length) j (hj : j < sz), w.cell? ⟨b, off + i * sz + j, none⟩ = some (cv i j) ∧ leaf (cv i j) = true ∧ ¬ M b (off + i * sz + j)
  rep : ∀ i (hi : i < xs.length) j (hj : j < xs[i].cells.length), RepD w M (xs[i].cells)[j] (cv i j)
theorem RowOK.repD {M : Cells} {xs : List D} {sz b off : Nat} {cv : Nat → Nat → Value} (h : RowOK w M xs sz b off cv) {ad : Option Addr} {cap : Nat} (hc : xs.length ≤ cap)
    (hm : xs.length ≤ 9223372036854775807) (ha : xs ≠ [] → ad = some ⟨b, off, none⟩) : RepD w M (.sl xs) (.slice ad xs.length cap) :=
  .sl sz b off cv hc hm ha h.len (fun i hi j hj => h.cell i hi j (by rw [← h.len i hi]; exact hj)) h.rep
theorem RepV.toD_cells {M : Cells} {v : V} {c : Value} {x : D} (h : RepV w M m v c) (hx : v.toD = some x) : c.cells.size = x.cells.length ∧
    (∀ j, j < x.cells.length → leaf (c.cells.getD j undef) = true) ∧ ∀ j (hj : j < x.cells.length), RepD w M x.cells[j] (c.cells.getD j undef) := by
  have hd := h.toD hx
  cases hd with
  | v h => exact ⟨by cases c <;> simp_all [okLeaf, Value.cells, D.cells], fun j hj => by
      have : j = 0 := by simp [D.cells] at hj; exact hj
      subst this
      cases c <;> simp_all [okLeaf, Value.cells, leaf, Array.getD], fun j hj => by
      have : j = 0 := by simp [D.cells] at hj; exact hj
      subst this
      have e : c.cells.getD 0 undef = c := by cases c <;> simp_all [okLeaf, Value.cells, Array.getD]
      rw [e]; exact .v h⟩
  | agg hs hl hr => exact ⟨hs, hl, hr⟩
  | sl sz b off cv h1 h2 h3 h4 h5 h6 => exact ⟨rfl, fun j hj => by
      have : j = 0 := by simp [D.cells] at hj; exact hj
      subst this; rfl, fun j hj => by
      have : j = 0 := by simp [D.cells] at hj; exact hj
      subst this; exact .sl sz b off cv h1 h2 h3 h4 h5 h6⟩

/-- The machine's filling of a row, part by part. -/
theorem fill_row (sz : Nat) : ∀ (vals : List Value) (r : Nat) (cells : Array Value), (∀ v ∈ vals, v.cells.size = sz) → (r + vals.length) * sz ≤ cells.size →
    ∃ out, Instr.fill (fun i => some (i * sz, sz)) cells ((List.range' r vals.length).zip vals) = some out ∧ out.size = cells.size ∧
      (∀ i, (i < r * sz ∨ (r + vals.length) * sz ≤ i) → out[i]? = cells[i]?) ∧ ∀ i (hi : i < vals.length) j (hj : j < sz), out[(r + i) * sz + j]? = some ((vals[i].cells).getD j undef) := by
  intro vals
  induction vals with
  | nil => intro r cells _ _; exact ⟨cells, by simp [Instr.fill], rfl, fun _ _ => rfl, by simp⟩
  | cons v vals ih =>
    intro r cells hv hle
    simp only [List.length_cons] at hle ⊢
    have hvs : v.cells.size = sz := hv v (by simp)
    have e0 : (r + (vals.length + 1)) * sz = r * sz + sz + vals.length * sz := by rw [Nat.add_mul, Nat.add_mul]; omega
    obtain ⟨h1, h2, h3⟩ := layL_spec (l := v.cells.toList) (off := r * sz) (cs := cells) (by simp; omega)
    have e1 : (r + 1 + vals.length) * sz = r * sz + sz + vals.length * sz := by rw [Nat.add_mul, Nat.add_mul]; omega
    obtain ⟨out, k1, k2, k3, k4⟩ := ih (r + 1) (layL v.cells.toList (r * sz) cells) (fun x hx => hv x (by simp [hx])) (by rw [h1]; omega)
    refine ⟨out, ?_, by rw [k2, h1], fun i hi => ?_, fun i hi j hj => ?_⟩
    · rw [show List.range' r (vals.length + 1) = r :: List.range' (r + 1) vals.length from by simp [List.range'_succ]]
      simp only [List.zip_cons_cons, Instr.fill]
      rw [if_neg (by simp; omega), fill_step]
      exact k1
    · have e2 : (r + 1) * sz = r * sz + sz := by rw [Nat.add_mul]; omega
      rw [k3 i (by omega), h2 i (by simp; omega)]
    · cases i with
      | zero =>
        simp only [List.getElem_cons_zero, Nat.add_zero]
        have e2 : (r + 1) * sz = r * sz + sz := by rw [Nat.add_mul]; omega
        rw [k3 _ (by omega)]
        have := h3 j (by simp; omega)
        rw [this, Array.getD_eq_getD_getElem?, Array.getElem?_eq_getElem (by omega)]; simp
      | succ i =>
        have := k4 i (by simpa using hi) j hj
        simp only [List.getElem_cons_succ]
        rw [← this]; congr 1
        have e3 : r + (i + 1) = r + 1 + i := by omega
        rw [e3]

theorem stab_alloc {M : Cells} {x : Obj} : Stab w M (w.alloc x) M := stab_below M (below_alloc' w x)
/-- A new block of cells. -/
theorem alloc_cell (w : World) (c : Array Value) (T : TypeId) (i : Nat) : (w.alloc (.cells c T)).cell? ⟨w.heap.size, i, none⟩ = c[i]? := by simp

theorem tzero_inv {t : TypeId} (hc : isCells (tzero P t) = true) : ∃ i z, P.info? t = some i ∧ i.zero = some z ∧ tzero P t = constV z := by
  unfold tzero at hc ⊢
  cases hi : P.info? t with
  | none => simp [hi, isCells] at hc
  | some i =>
    cases hz : i.zero with
    | none => simp [hi, hz, isCells] at hc
    | some z => exact ⟨i, z, rfl, hz, by simp [hz]⟩

theorem tot_empty' {Mo bx ow m i} {g e : Nat} {b o : Nat} (h : Tot Mo bx (i :: ow) { m with ow := fun j => if j = i then (g, e, e) else m.ow j } b o) : Tot Mo bx ow m b o := by
  rcases h with h | h | ⟨j, hj, h1, h2, h3⟩
  · exact .inl h
  · exact .inr (.inl h)
  · by_cases e : j = i
    · subst e; simp only [if_true] at h2 h3; omega
    · simp only [e, if_false] at h1 h2 h3
      rcases List.mem_cons.1 hj with e' | hj
      · exact absurd e' e
      · exact .inr (.inr ⟨j, hj, h1, h2, h3⟩)
theorem tot_lt {as : List Act} (hR : Rel Mo m s as w) {b j : Nat} (h : Tot Mo s.bx s.ow m b j) : b < w.heap.size := by
  rcases h with h | ⟨nm, c, hn, e⟩ | ⟨i, hi, h1, h2, h3⟩
  · exact hR.mo b j h
  · obtain ⟨cs, T, hb⟩ := hR.box nm c hn
    rw [e]; exact (Array.getElem?_eq_some_iff.1 hb.heap).1
  · obtain ⟨c, T, hb, _⟩ := hR.oww i hi (by unfold nonempty; omega)
    rw [← h1]; exact (Array.getElem?_eq_some_iff.1 hb).1

section
variable (hR : Rel Mo m s (a :: sv) w) (hd : ∀ d, o.dst = some d → d < s.n) (hK : OpNext Mo m s o.dst a sv w k K) (h : evOp P S p o s k)
include hR hd hK h

theorem op_buildSlice {t : TypeId} {len : Nat} {parts : Array (Nat × Operand)} (hop : o.op = .buildSlice t len parts) : o.wpIn (Wd (rdOf m s)) n P a w K Q := by
  simp only [evOp, hop] at h
  split at h
  · rename_i e he
    have hu := telem_inv he
    obtain ⟨hez, hc, hmx, hnm, h⟩ := h
    obtain ⟨i, z, hi, hz, hcz⟩ := tzero_inv hc
    split at h
    · rename_i xs hxs
      obtain ⟨hlen, h⟩ := h
      obtain ⟨hx1, hx2⟩ := toDs_spec hxs
      have hl0 : len = parts.size := by have := congrArg List.length hnm; simpa using this.symm
      have hxl : xs.length = len := by simp at hx1; omega
      have hsz : (sizeOf e).run P w = .ok (tsz P e) w := run_sizeOf_ne hez
      have hzero : (zeroValue e).run P w = .ok z w := by simp [zeroValue, typeInfo, hi, hz]
      let vals := parts.toList.map fun x => a.eval x.2
      have hvl : vals.length = len := by simp [vals, hl0]
      have hrepx : ∀ i (hi : i < xs.length), (vals[i]'(by omega)).cells.size = xs[i].cells.length ∧
          (∀ j, j < xs[i].cells.length → leaf ((vals[i]'(by omega)).cells.getD j undef) = true) ∧ ∀ j (hj : j < xs[i].cells.length), RepD w (Tot Mo s.bx s.ow m) xs[i].cells[j] ((vals[i]'(by omega)).cells.getD j undef) := by
        intro i hi
        have h1 := hx2 i (by simp; omega) hi
        simp only [List.getElem_map, Array.getElem_toList] at h1
        have := RepV.toD_cells (hR.operand _) h1
        simpa [vals] using this
      have hvs : ∀ v ∈ vals, v.cells.size = tsz P e := by
        intro v hv
        obtain ⟨i, hi, rfl⟩ := List.getElem_of_mem hv
        have := hrepx i (by omega)
        rw [this.1]; exact hlen _ (List.getElem_mem _)
      have hzipped : (parts.map fun ((i, x) : Nat × Operand) => (i, a.eval x)).toList = (List.range' 0 vals.length).zip vals := by
        apply List.ext_getElem
        · simp [vals]
        · intro i h1 h2
          have := congrArg (·[i]?) hnm
          simp at h1
          simp only [List.getElem?_map, List.getElem?_range (show i < len by omega)] at this
          rw [Array.getElem?_toList, Array.getElem?_eq_getElem h1] at this
          simp at this
          simp [vals, this]
      obtain ⟨out, f1, f2, f3, f4⟩ := fill_row (tsz P e) vals 0 ((Array.range (len * tsz P e)).map (fun x => (if len * tsz P e = 0 then #[] else z.cells)[x % (if len * tsz P e = 0 then #[] else z.cells).size]!)) hvs (by simp [hvl])
      have hrun : (Instr.buildSlice t len (parts.map fun ((i, x) : Nat × Operand) => (i, a.eval x))).run P w = .ok (.slice (some ⟨w.heap.size, 0, none⟩) len len) (w.alloc (.cells out e)) := by
        simp only [Instr.buildSlice, Sem.run_bind, run_underlying hu, Result.andThen_ok, hsz]
        rw [if_neg (by omega)]
        by_cases h00 : len * tsz P e = 0
        · simp only [h00, if_true] at f1
          simp only [h00, if_true, Sem.run_bind, Sem.run_pure, Result.andThen_ok, hzipped, f1, newRow, run_newObj, World.alloc_eq]
        · simp only [h00, if_false] at f1
          simp only [h00, if_false, Sem.run_bind, Sem.run_pure, Result.andThen_ok, hzipped, hzero, f1, newRow, run_newObj, World.alloc_eq]
      have hrow : RowOK (w.alloc (.cells out e)) (Tot Mo s.bx s.ow m) xs (tsz P e) w.heap.size 0 (fun i j => (vals.getD i undef).cells.getD j undef) := by
        refine ⟨fun i hi => hlen _ (List.getElem_mem _), fun i hi j hj => ?_, fun i hi j hj => ?_⟩
        · have h1 := hrepx i hi
          have e1 : vals.getD i undef = vals[i]'(by omega) := by simp [List.getD_eq_getElem?_getD, List.getElem?_eq_getElem (show i < vals.length by omega)]
          refine ⟨?_, by rw [e1]; exact h1.2.1 j (by rw [hlen _ (List.getElem_mem _)]; exact hj), fun ht => ?_⟩
          · rw [alloc_cell, e1]
            have := f4 i (by omega) j hj
            simpa using this
          · exact absurd (tot_lt hR ht) (by omega)
        · have h1 := hrepx i hi
          have e1 : vals.getD i undef = vals[i]'(by omega) := by simp [List.getD_eq_getElem?_getD, List.getElem?_eq_getElem (show i < vals.length by omega)]
          simp only [e1]
          exact (h1.2.2 j hj).mono stab_alloc
      have hR' := hR.below (below_alloc' w (.cells out e))
      have hrepS : RepD (w.alloc (.cells out e)) (Tot Mo s.bx s.ow m) (.sl xs) (.slice (some ⟨w.heap.size, 0, none⟩) len len) := by
        have := hrow.repD (ad := some ⟨w.heap.size, 0, none⟩) (cap := len) (by omega) (by have : len ≤ len * tsz P e := Nat.le_mul_of_pos_right _ (Nat.pos_of_ne_zero hez); omega) (fun _ => rfl)
        rw [hxl] at this; exact this
      split at h
      · rename_i h00
        have hxs0 : xs = [] := List.eq_nil_of_length_eq_zero (by omega)
        have h1 := (hR'.strip (o.dst.getD 0 :: p)).own (o.dst.getD 0 :: p) (w.heap.size, 0, 0) Sa.strip_ow (Sa.strip_all s _) (fun hn => absurd hn (by simp [nonempty])) (fun b o' c hcell hm => ⟨hcell, fun hx => hm (tot_empty' hx)⟩)
        refine op_value (by simp [hop]) (by simp only [execOp, hop]; exact execOp_v hrun) (next_put' hK h1 hd ?_ rfl (.own ?_ (by simp) ?_) h)
        · refine ⟨.of_below (below_alloc' w _), fun b o' _ hm => ?_, fun b _ hl => hl, rfl, by simp [Sa.strip, List.map_map, Function.comp_def], fun _ _ => rfl⟩
          have := tot_empty' (Mo := fun _ _ => False) (.inr hm)
          rcases this with h0 | h0
          · exact h0.elim
          · exact mut_strip h0
        · rw [hxs0] at hrepS
          refine hrepS.mono (fun b o' c hcell hm => ⟨hcell, fun hx => hm ?_⟩)
          rcases tot_empty' hx with h0 | h0
          · exact .inl h0
          · exact .inr (mut_strip h0)
        · refine ⟨rfl, Nat.le_refl _, by simp [h00], out, e, World.alloc_heap_new w _, by simp [h00]⟩
      · exact op_value (by simp [hop]) (by simp only [execOp, hop]; exact execOp_v hrun) (next_put' hK hR' hd (Step.of_below (below_alloc' w _)) rfl (.d hrepS) h)
    · exact h.elim
  · exact h.elim
end
end Go.Ab
