import Derived.Test.YtllmddkakimloaaAbMem
/-! Values: parts, loads, stores, data of values. -/
namespace Go.Ab
set_option linter.all false
open Go Go.RowKit
variable {w : World} {M : Cells} {m : Mp}

theorem RepV.toD1 {v : V} {c : Value} {x : D} (h : RepV w M m v c) (hx : v.toD1 = some x) : RepD w M x c := by
  cases h <;> simp [V.toD1] at hx
  · subst hx; assumption
  · subst hx; exact repD_nil
  · subst hx; assumption
theorem RepV.asD {v : V} {c : Value} {x : D} (h : RepV w M m v c) (hx : v.asD = some x) : RepD w M x c := by
  cases h <;> simp [V.asD] at hx
  · subst hx; assumption
  · subst hx; exact repD_nil
theorem toDs_spec {f : V → Option D} {vs : List V} {ds : List D} (h : toDs f vs = some ds) : ds.length = vs.length ∧ ∀ i (h1 : i < vs.length) (h2 : i < ds.length), f vs[i] = some ds[i] := by
  induction vs generalizing ds with
  | nil => simp [toDs] at h; subst h; simp
  | cons v vs ih =>
    simp only [toDs] at h
    split at h
    · rename_i x xs hx hxs
      simp only [Option.some.injEq] at h; subst h
      obtain ⟨h1, h2⟩ := ih hxs
      refine ⟨by simp [h1], fun i hi hi' => ?_⟩
      cases i with
      | zero => exact hx
      | succ i => exact h2 i (by simpa using hi) (by simpa using hi')
    · cases h
theorem RepV.toD {v : V} {c : Value} {x : D} (h : RepV w M m v c) (hx : v.toD = some x) : RepD w M x c := by
  cases v with
  | agg cs =>
    simp only [V.toD, Option.map_eq_some_iff] at hx
    obtain ⟨ds, hds, rfl⟩ := hx
    obtain ⟨h1, h2⟩ := toDs_spec hds
    cases h with
    | agg hs hl hr => exact .agg (by omega) (fun i hi => hl i (by omega)) (fun i hi => (hr i (by omega)).toD1 (h2 i (by omega) hi))
  | _ => exact h.toD1 (by simpa [V.toD] using hx)
/-- Cells in a row, as a struct's value. -/
theorem repV_mkAgg {cs : List V} {vs : Array Value} (hs : vs.size = cs.length) (hl : ∀ i, i < cs.length → leaf (vs.getD i undef) = true)
    (h : ∀ i (hi : i < cs.length), RepV w M m cs[i] (vs.getD i undef)) : RepV w M m (mkAgg cs) (.agg vs) := by
  unfold mkAgg
  split
  · rename_i ds hds
    obtain ⟨h1, h2⟩ := toDs_spec hds
    exact .d (.agg (by omega) (fun i hi => hl i (by omega)) (fun i hi => (h i (by omega)).toD1 (h2 i (by omega) hi)))
  · exact .agg hs hl h
theorem mkAggB_cells (cs : List V) (hc : ∀ v ∈ cs, isCells v = true → True := fun _ _ _ => trivial) : (mkAggB cs).cells.length = cs.length ∧
    ∀ i (hi : i < cs.length) (hi' : i < (mkAggB cs).cells.length) (v : Value), RepV w M m cs[i] v → RepV w M m (mkAggB cs).cells[i] v := by
  unfold mkAggB
  split
  · rename_i ds hds
    obtain ⟨h1, h2⟩ := toDs_spec hds
    refine ⟨by simp [V.cells, h1], fun i hi hi' v hv => ?_⟩
    simp only [V.cells, List.getElem_map]
    exact .d (hv.asD (h2 i hi (by omega)))
  · exact ⟨rfl, fun i hi hi' v hv => hv⟩
theorem getD_range_map (f : Nat → Value) (n i : Nat) (hi : i < n) : (((List.range n).map f).toArray).getD i undef = f i := by
  simp [Array.getD_eq_getD_getElem?, hi]
/-- A load gives what the variable's content says. -/
theorem repV_loadBox {ag : Bool} {off sz : Nat} {c : V} {f : Nat → Value} (hle : off + sz ≤ c.cells.length) (hz : ag = false → sz ≠ 0)
    (hl : ∀ j, j < sz → leaf (f j) = true) (hf : ∀ j (hj : j < sz), RepV w M m (c.cells[off + j]'(by omega)) (f j)) :
    RepV w M m (loadBox ag off sz c) (if ag then .agg ((List.range sz).map f).toArray else f 0) := by
  have hagg : RepV w M m (mkAgg ((c.cells.drop off).take sz)) (.agg ((List.range sz).map f).toArray) := by
    have hlen : ((c.cells.drop off).take sz).length = sz := by simp; omega
    refine repV_mkAgg (by simp [hlen]) (fun i hi => ?_) (fun i hi => ?_)
    · rw [getD_range_map f sz i (by omega)]; exact hl i (by omega)
    · rw [getD_range_map f sz i (by omega)]
      simp only [List.getElem_take, List.getElem_drop]
      exact hf i (by omega)
  have hdata : ∀ ds : List D, c = .d (.agg ds) → ∀ j, j < sz → ∃ h : off + j < ds.length, RepD w M ds[off + j] (f j) := by
    intro ds e j hj
    subst e
    have h1 : off + j < ds.length := by simp [V.cells] at hle; omega
    refine ⟨h1, ?_⟩
    have := hf j hj
    simp only [V.cells, List.getElem_map] at this
    cases this; assumption
  cases ag with
  | true =>
    simp only [if_true]
    by_cases hd : ∃ ds, c = .d (.agg ds)
    · obtain ⟨ds, rfl⟩ := hd
      simp only [loadBox]
      split
      · rename_i h0
        refine .d (.agg (by simp [h0.2]) (fun i hi => ?_) (fun i hi => ?_))
        · rw [getD_range_map f sz i (by omega)]; exact hl i (by omega)
        · rw [getD_range_map f sz i (by omega)]
          obtain ⟨h1, h2⟩ := hdata ds rfl i (by omega)
          have e : off + i = i := by omega
          simpa only [e] using h2
      · have hlen : ((ds.drop off).take sz).length = sz := by simp [V.cells] at hle ⊢; omega
        refine .d (.agg (by simp [hlen]) (fun i hi => ?_) (fun i hi => ?_))
        · rw [getD_range_map f sz i (by omega)]; exact hl i (by omega)
        · rw [getD_range_map f sz i (by omega)]
          obtain ⟨h1, h2⟩ := hdata ds rfl i (by omega)
          simp only [List.getElem_take, List.getElem_drop]; exact h2
    · have e : loadBox true off sz c = mkAgg ((c.cells.drop off).take sz) := by
        unfold loadBox; split <;> simp_all
      rw [e]; exact hagg
  | false =>
    simp only [Bool.false_eq_true, if_false]
    have h0 : 0 < sz := Nat.pos_of_ne_zero (hz rfl)
    by_cases hd : ∃ ds, c = .d (.agg ds)
    · obtain ⟨ds, rfl⟩ := hd
      obtain ⟨h1, h2⟩ := hdata ds rfl 0 h0
      simp only [loadBox]
      rw [List.getElem?_eq_getElem (by simpa using h1)]
      exact .d h2
    · have e : loadBox false off sz c = (c.cells[off]?).getD .dead := by
        unfold loadBox; split <;> simp_all
      rw [e, List.getElem?_eq_getElem (by omega)]
      exact hf 0 h0
theorem repV_takeD {ag : Bool} {sz : Nat} {cs : List D} {f : Nat → Value} (hle : sz ≤ cs.length) (hz : ag = false → sz ≠ 0)
    (hl : ∀ j, j < sz → leaf (f j) = true) (hf : ∀ j (hj : j < cs.length), RepD w M cs[j] (f j)) :
    RepV w M m (takeD ag sz cs) (if ag then .agg ((List.range sz).map f).toArray else f 0) := by
  cases ag with
  | true =>
    simp only [if_true, takeD]
    split
    · rename_i h0
      refine .d (.agg (by simp [h0]) (fun i hi => ?_) (fun i hi => ?_))
      · rw [getD_range_map f sz i (by omega)]; exact hl i (by omega)
      · rw [getD_range_map f sz i (by omega)]; exact hf i hi
    · have hlen : (cs.take sz).length = sz := by simp; omega
      refine .d (.agg (by simp [hlen]) (fun i hi => ?_) (fun i hi => ?_))
      · rw [getD_range_map f sz i (by omega)]; exact hl i (by omega)
      · rw [getD_range_map f sz i (by omega)]
        simp only [List.getElem_take]; exact hf i (by omega)
  | false =>
    simp only [Bool.false_eq_true, if_false, takeD]
    have h0 : 0 < sz := Nat.pos_of_ne_zero (hz rfl)
    cases cs with
    | nil => simp at hle; omega
    | cons x xs => exact .d (hf 0 (by simp))

/-- A store lays the parts. -/
theorem storeBox_spec {off : Nat} {x c : V} (hle : off + x.cells.length ≤ c.cells.length) : (storeBox off x c).cells.length = c.cells.length ∧
    ∀ i (hi : i < (storeBox off x c).cells.length) (v : Value),
      ((i < off ∨ off + x.cells.length ≤ i) → ∀ h : i < c.cells.length, RepV w M m c.cells[i] v → RepV w M m (storeBox off x c).cells[i] v) ∧
      (∀ h : off ≤ i ∧ i < off + x.cells.length, RepV w M m (x.cells[i - off]'(by omega)) v → RepV w M m (storeBox off x c).cells[i] v) := by
  have hcat : ∀ {α : Type} (l y : List α), off + y.length ≤ l.length → (l.take off ++ y ++ l.drop (off + y.length)).length = l.length ∧
      ∀ i (hi : i < (l.take off ++ y ++ l.drop (off + y.length)).length), ((i < off ∨ off + y.length ≤ i) → ∀ h : i < l.length, (l.take off ++ y ++ l.drop (off + y.length))[i] = l[i]) ∧
        (∀ h : off ≤ i ∧ i < off + y.length, (l.take off ++ y ++ l.drop (off + y.length))[i] = y[i - off]'(by omega)) := by
    intro α l y hy
    refine ⟨by simp; omega, fun i hi => ⟨fun ho h => ?_, fun h => ?_⟩⟩
    · rcases ho with ho | ho
      · rw [List.getElem_append_left (by simp; omega), List.getElem_append_left (by simp; omega)]; simp
      · rw [List.getElem_append_right (by simp; omega)]
        simp only [List.length_append, List.length_take, List.getElem_drop]
        congr 1; omega
    · rw [List.getElem_append_left (by simp; omega), List.getElem_append_right (by simp; omega)]
      simp only [List.length_take]
      congr 1; omega
  unfold storeBox
  split
  · rename_i h0
    refine ⟨h0.2, fun i hi v => ⟨fun ho h hv => by omega, fun h hv => ?_⟩⟩
    have e : i - off = i := by omega
    simpa only [e] using hv
  · split
    · rename_i d ds _
      have hds : (V.d (D.agg ds)).cells.length = ds.length := by simp [V.cells]
      have hxl : (V.d d).cells.length = d.cells.length := by cases d <;> simp [V.cells, D.cells]
      have hxc : ∀ j (h1 : j < (V.d d).cells.length) (h2 : j < d.cells.length), (V.d d).cells[j] = .d (d.cells[j]) := by
        intro j h1 h2; cases d <;> simp [V.cells, D.cells] <;> rfl
      rw [hxl, hds] at hle
      obtain ⟨k1, k2⟩ := hcat ds d.cells hle
      refine ⟨by simp only [V.cells, List.length_map]; exact k1, fun i hi v => ?_⟩
      simp only [V.cells, List.length_map] at hi
      refine ⟨fun ho h hv => ?_, fun h hv => ?_⟩
      · rw [hxl] at ho
        simp only [V.cells, List.length_map] at h
        simp only [V.cells, List.getElem_map] at hv ⊢
        rw [(k2 i hi).1 ho h]; exact hv
      · rw [hxl] at h
        rw [hxc _ (by rw [hxl]; omega) (by omega)] at hv
        simp only [V.cells, List.getElem_map]
        rw [(k2 i hi).2 h]; exact hv
    · obtain ⟨k1, k2⟩ := hcat c.cells x.cells hle
      obtain ⟨j1, j2⟩ := mkAggB_cells (w := w) (M := M) (m := m) (c.cells.take off ++ x.cells ++ c.cells.drop (off + x.cells.length))
      refine ⟨by rw [j1, k1], fun i hi v => ?_⟩
      have hi1 : i < (c.cells.take off ++ x.cells ++ c.cells.drop (off + x.cells.length)).length := by rw [← j1]; exact hi
      refine ⟨fun ho h hv => j2 i hi1 hi v (by rw [(k2 i hi1).1 ho h]; exact hv), fun h hv => j2 i hi1 hi v (by rw [(k2 i hi1).2 h]; exact hv)⟩
end Go.Ab
namespace Go.Ab
open Go Go.RowKit
variable {w : World} {M : Cells} {m : Mp}
theorem RepV.val {x c : Value} (h : RepV w M m (.d (.v x)) c) : c = x ∧ okLeaf x := by
  cases h with | d h => cases h with | v h => exact ⟨rfl, h⟩
theorem RepV.ptr_inv {nm : Name} {off : Nat} {c : Value} (h : RepV w M m (.ptr nm off) c) : c = .pointer (some ⟨m.bx nm, off, none⟩) := by
  cases h; rfl
theorem RepV.ref_inv {cs : List D} {c : Value} (h : RepV w M m (.ref cs) c) : ∃ (b off : Nat) (cv : Nat → Value), c = .pointer (some ⟨b, off, none⟩) ∧
    (∀ j (hj : j < cs.length), w.cell? ⟨b, off + j, none⟩ = some (cv j) ∧ leaf (cv j) = true ∧ ¬ M b (off + j)) ∧ ∀ j (hj : j < cs.length), RepD w M cs[j] (cv j) := by
  cases h with | ref b off cv h1 h2 => exact ⟨b, off, cv, rfl, h1, h2⟩
theorem RepV.tup_inv {vs : List V} {c : Value} (h : RepV w M m (.tup vs) c) : ∃ cs, c = .tuple cs ∧ cs.size = vs.length ∧ ∀ i (hi : i < vs.length), RepV w M m vs[i] (cs.getD i undef) := by
  cases h with | tup h1 h2 => exact ⟨_, rfl, h1, h2⟩
theorem RepV.fn_inv {f : FuncId} {cap : List V} {c : Value} (h : RepV w M m (.fn f cap) c) : ∃ cs, c = .func (.func f) #[] cs ∧ cs.size = cap.length ∧ ∀ i (hi : i < cap.length), RepV w M m cap[i] (cs.getD i undef) := by
  cases h with | fn h1 h2 => exact ⟨_, rfl, h1, h2⟩
theorem RepV.yld_inv {l : Name} {c : Value} (h : RepV w M m (.yld l) c) : c = .func (.yield (m.lp l)) #[] #[] := by
  cases h; rfl
theorem RepV.slice {v : V} {c : Value} {xs : List D} (h : RepV w M m v c) (hs : sliceOf v = some xs) : RepD w M (.sl xs) c := by
  cases h <;> simp [sliceOf] at hs
  · rename_i x h
    cases x <;> simp at hs
    subst hs; exact h
  · subst hs; exact repD_nil
  · subst hs; assumption
theorem RepV.int {v : V} {c : Value} {i : Int} (h : RepV w M m v c) (hi : intOfV v = some i) : ∃ q, c = .int q i := by
  cases h <;> simp [intOfV] at hi
  rename_i x h
  cases h with
  | v h =>
    cases c <;> simp at hi
    subst hi; exact ⟨_, rfl⟩
  | _ => simp at hi
theorem RepD.sl_inv {xs : List D} {c : Value} (h : RepD w M (.sl xs) c) : ∃ (a : Option Addr) (cap sz b off : Nat) (cv : Nat → Nat → Value), c = .slice a xs.length cap ∧ xs.length ≤ cap ∧ xs.length ≤ 9223372036854775807 ∧
      (xs ≠ [] → a = some ⟨b, off, none⟩) ∧ (∀ i (hi : i < xs.length), xs[i].cells.length = sz) ∧
      (∀ i (hi : i < xs.length) j (hj : j < xs[i].cells.length), w.cell? ⟨b, off + i * sz + j, none⟩ = some (cv i j) ∧ leaf (cv i j) = true ∧ ¬ M b (off + i * sz + j)) ∧
      (∀ i (hi : i < xs.length) j (hj : j < xs[i].cells.length), RepD w M (xs[i].cells)[j] (cv i j)) := by
  cases h with | sl sz b off cv h1 h2 h3 h4 h5 h6 => exact ⟨_, _, sz, b, off, cv, rfl, h1, h2, h3, h4, h5, h6⟩
end Go.Ab
