import Derived.Test.YtllmddkakimloaaAbOp2
/-! Stores, parts, indexing, slicing. -/
namespace Go.Ab
set_option linter.all false
open Go Go.RowKit
variable {P : Program} {o : Oper} {a : Act} {w : World} {K : Act → World → Prop} {Q : Exit → Act → World → Prop} {n : Nat} {Mo : Cells} {m : Mp} {s : Sa} {sv : List Act} {k : Sa → Prop} {p : Name} {S : Sems}

theorem dead_rep {M : Cells} {m : Mp} {c : Value} : RepV w M m .dead c := .dead
section
variable (hR : Rel Mo m s (a :: sv) w) (hd : ∀ d, o.dst = some d → d < s.n) (hK : OpNext Mo m s o.dst a sv w k K) (h : evOp P S p o s k)
include hR hd hK h

theorem op_store {t : TypeId} {x y : Operand} (hop : o.op = .store t x y) : o.wpIn (Wd (rdOf m s)) n P a w K Q := by
  simp only [evOp, hop] at h
  have hv := hR.operand x
  split at h
  · rename_i nm off hx
    rw [hx] at hv
    split at h
    · rename_i c0 hc0
      obtain ⟨m', h1, h2, h3, h4, h5, h6, h7⟩ := hR.claim (hR.operand y) ((1000000 + off) :: nm) (esz P t)
      split at h
      · rename_i c hc
        obtain ⟨hcy, htz, hlen, hle, h⟩ := h
        obtain ⟨hs1, hs2, hs3⟩ := h2.cells (claim_cells hcy)
        obtain ⟨i, hi⟩ := tsz_some htz
        have hleaf : ∀ v ∈ (a.eval y).cells.toList, leaf v = true := by
          intro v hvm
          obtain ⟨j, hj, rfl⟩ := List.getElem_of_mem hvm
          have hj' : j < (a.eval y).cells.size := by simpa using hj
          have := hs2 j (by omega)
          rw [Array.getD_eq_getD_getElem?, Array.getElem?_eq_getElem hj'] at this
          simpa using this
        have hsl : (a.eval y).cells.toList.length = (s.claim ((1000000 + off) :: nm) (esz P t) (s.get y)).1.cells.length := by simpa using hs1
        obtain ⟨cs, T, hb⟩ := h1.box nm c hc
        have hrun : (Instr.storeAt t (a.eval x) (a.eval y)).run P w = .ok () (putCells w (m'.bx nm) off (a.eval y).cells.toList) := by
          rw [hv.ptr_inv]
          simp only [Instr.storeAt, Instr.sureAddr, Sem.run_bind, Sem.run_pure, Result.andThen_ok, storeVar]
          have e1 : (sizeOf t).run P w = .ok (tsz P t) w := by simp [sizeOf, typeInfo, hi, tsz]
          simp only [e1, Result.andThen_ok]
          rw [if_neg (by simp; omega)]
          rw [h4]
          have := run_storeCells (P := P) (a.eval y).cells.toList hleaf w (m.bx nm) off 0 cs T (by rw [← h4]; exact hb.heap) (by rw [hsl, hb.size]; omega)
          simpa using this
        obtain ⟨sp1, sp2⟩ := storeBox_spec (w := w) (M := Tot Mo (s.claim ((1000000 + off) :: nm) (esz P t) (s.get y)).2.bx (s.claim ((1000000 + off) :: nm) (esz P t) (s.get y)).2.ow m') (m := m') (off := off) (x := (s.claim ((1000000 + off) :: nm) (esz P t) (s.get y)).1) (c := c) (by omega)
        obtain ⟨h8, h9⟩ := h1.storeBox nm hc off (a.eval y).cells.toList hleaf (by rw [hsl]; omega) (c' := storeBox off (s.claim ((1000000 + off) :: nm) (esz P t) (s.get y)).1 c) sp1 (by
          intro ds ds' hrep hsz hsz' hout hin i hi
          by_cases ho : i < off ∨ off + (s.claim ((1000000 + off) :: nm) (esz P t) (s.get y)).1.cells.length ≤ i
          · refine (sp2 i hi _).1 ho (by omega) ?_
            have := hrep i (by omega)
            rw [Array.getD_eq_getD_getElem?] at this ⊢
            rw [hout i (by rw [hsl]; exact ho)]; exact this
          · refine (sp2 i hi _).2 (by omega) ?_
            have hj := hin (i - off) (by rw [hsl]; omega)
            rw [show off + (i - off) = i from by omega] at hj
            rw [Array.getD_eq_getD_getElem?, hj, Option.getD_some]
            have := hs3 (i - off) (by omega)
            rw [Array.getD_eq_getD_getElem?, Array.getElem?_eq_getElem (by omega), Option.getD_some] at this
            simpa using this)
        exact op_skip (by simp [hop]) (by simp only [execOp, hop]; exact execOp_u hrun)
          (next_put' hK h8 (by simp only [h7]; exact hd) (h3.trans h9) (by simp only [rdOf, h6, h5]) dead_rep h)
      · exact h.elim
    · exact h.elim
  · exact h.elim

theorem op_field {t : TypeId} {x : Operand} {i : Nat} (hop : o.op = .field t x i) : o.wpIn (Wd (rdOf m s)) n P a w K Q := by
  simp only [evOp, hop] at h
  have hv := hR.operand x
  split at h
  · rename_i off ft hf
    obtain ⟨fs, f, hu, hfi, e1, e2⟩ := tfield_inv hf
    simp only at e1 e2
    split at h
    · rename_i ag hag
      obtain ⟨hz, hle, hsh, h⟩ := h
      have hagg : ∃ cs, a.eval x = .agg cs ∧ isCells (s.get x) = true := by
        revert hsh hv
        generalize s.get x = v
        generalize a.eval x = cc
        intro hv hsh
        cases v with
        | d x' =>
          cases x' with
          | agg ds => cases hv with | d hv => cases hv with | agg _ _ _ => exact ⟨_, rfl, rfl⟩
          | _ => cases hsh
        | agg cs => cases hv; exact ⟨_, rfl, rfl⟩
        | _ => cases hsh
      obtain ⟨cs, ecs, hcc⟩ := hagg
      obtain ⟨hs1, hs2, hs3⟩ := hv.cells hcc
      rw [ecs] at hs1 hs2 hs3
      simp only [Value.cells] at hs1 hs2 hs3
      refine op_value (v := if ag then .agg ((List.range (tsz P ft)).map (fun j => cs.getD (off + j) undef)).toArray else cs.getD (off + 0) undef) (w' := w) (by simp [hop]) (by
        simp only [execOp, hop, ecs]
        refine execOp_v ?_
        obtain ⟨d, hd1, _⟩ := tagg_underlying hag
        simp only [Instr.field, Sem.run_bind, run_underlying hu, Result.andThen_ok, hfi, asAgg, Sem.run_pure, part, e2, e1, run_isAgg hag]
        cases ag with
        | true =>
          simp only [if_true, Sem.run_bind, run_sizeOf' hd1, Result.andThen_ok, Sem.run_pure]
          congr 2
          apply Array.ext
          · simp; omega
          · intro j h1 h2
            simp at h1 h2
            simp [Array.getD_eq_getD_getElem?, Array.getElem?_eq_getElem (show off + j < cs.size by omega)]
        | false =>
          have := hz rfl
          simp only [Bool.false_eq_true, if_false, Nat.add_zero, Array.getD_eq_getD_getElem?]
          rw [Array.getElem?_eq_getElem (by omega)]; rfl) (next_put hR hd hK ?_ h)
      exact repV_loadBox (f := fun j => cs.getD (off + j) undef) hle hz (fun j hj => hs2 _ (by omega)) (fun j hj => hs3 _ (by omega))
    · exact h.elim
  · exact h.elim

theorem op_slice {t : TypeId} {x : Operand} {lo hi : Option Operand} (hop : o.op = .slice t x lo hi none) : o.wpIn (Wd (rdOf m s)) n P a w K Q := by
  simp only [evOp, hop] at h
  have hv := hR.operand x
  split at h
  · rename_i e xs l he hxs hl
    have hu := telem_inv he
    split at h
    · rename_i hh hhi
      obtain ⟨hez, h0, h1, h2, hlen, h⟩ := h
      obtain ⟨ad, cap, sz, b, off, cv, ec, hc1, hc2, ha, hsz, hcell, hrep⟩ := (hv.slice hxs).sl_inv
      have hb : (Instr.sliceBounds true xs.length cap (lo.map a.eval) (hi.map a.eval) none).run P w = .ok (l.toNat, hh.toNat, cap) w := by
        have e1 : (match lo.map a.eval with | some v => Instr.sliceBound v hh.toNat .sliceB | none => pure 0 : Sem Nat).run P w = .ok l.toNat w := by
          cases lo with
          | none => simp only [Option.some.injEq] at hl; subst hl; simp
          | some l' =>
            simp only at hl
            obtain ⟨q, hq⟩ := (hR.operand l').int hl
            simp only [Option.map_some, Instr.sliceBound, hq, Sem.run_bind, asIntOf, Sem.run_pure, Result.andThen_ok]
            rw [if_pos ⟨h0, by omega⟩]; simp
        cases hi with
        | none =>
          simp only [Option.some.injEq] at hhi; subst hhi
          cases lo with
          | none => simp only [Option.some.injEq] at hl; subst hl; simp [Instr.sliceBounds]
          | some l' =>
            simp only [Option.map_some] at e1
            simp only [Instr.sliceBounds, Option.map_some, Option.map_none, Sem.run_bind, Sem.run_pure, Result.andThen_ok, Option.isSome_none, Bool.false_eq_true, if_false]
            simp only [Int.toNat_natCast] at e1
            rw [e1]; simp
        | some h' =>
          simp only at hhi
          obtain ⟨q, hq⟩ := (hR.operand h').int hhi
          have e2 : (Instr.sliceBound (a.eval h') cap .sliceAcap).run P w = .ok hh.toNat w := by
            simp only [Instr.sliceBound, hq, Sem.run_bind, asIntOf, Sem.run_pure, Result.andThen_ok]
            rw [if_pos ⟨by omega, by omega⟩]; simp
          cases lo with
          | none =>
            simp only [Option.some.injEq] at hl; subst hl
            simp [Instr.sliceBounds, e2]
          | some l' =>
            simp only [Option.map_some] at e1
            simp only [Instr.sliceBounds, Option.map_some, Sem.run_bind, Sem.run_pure, Result.andThen_ok, Option.isSome_none, Bool.false_eq_true, if_false, if_true, e2, e1]
      have hrun : (Instr.sliceAt t (a.eval x) (lo.map a.eval) (hi.map a.eval) none).run P w = .ok (.slice (if cap = l.toNat then ad else ad.map (·.add (l.toNat * tsz P e))) (hh.toNat - l.toNat) (cap - l.toNat)) w := by
        rw [ec]
        simp only [Instr.sliceAt, Sem.run_bind, run_underlying hu, Result.andThen_ok, Instr.slice, hb, run_sizeOf_ne hez, Sem.run_pure]
      have hl1 : ((xs.take hh.toNat).drop l.toNat).length = hh.toNat - l.toNat := by simp; omega
      refine op_value (w' := w) (by simp [hop]) (by simp only [execOp, hop, Option.map_none]; exact execOp_v hrun) (next_put hR hd hK (.d ?_) h)
      rw [← hl1]
      have hsz' : l.toNat < hh.toNat → sz = tsz P e ∨ l = 0 := fun hlt => by
        by_cases h00 : l = 0
        · exact .inr h00
        · left
          have h1' := hsz 0 (by omega)
          rw [← h1']; exact hlen (by omega) _ (List.getElem_mem _)
      have hget : ∀ i (hi : i < ((xs.take hh.toNat).drop l.toNat).length), ((xs.take hh.toNat).drop l.toNat)[i] = xs[l.toNat + i]'(by omega) := fun i hi => by simp
      have hoff : ∀ i j, i < hh.toNat - l.toNat → off + l.toNat * tsz P e + i * sz + j = off + (l.toNat + i) * sz + j := fun i j hi => by
        rcases hsz' (by omega) with e' | e'
        · rw [e', Nat.add_mul]; omega
        · rw [e']; simp
      refine .sl sz b (off + l.toNat * tsz P e) (fun i j => cv (l.toNat + i) j) (by omega) (by omega) (fun hne => ?_) (fun i hi => ?_) (fun i hi j hj => ?_) (fun i hi j hj => ?_)
      · have hlt : l.toNat < hh.toNat := by
          have : ((xs.take hh.toNat).drop l.toNat).length ≠ 0 := fun e0 => hne (List.eq_nil_of_length_eq_zero e0)
          omega
        rw [if_neg (by omega), ha (by intro e0; subst e0; simp at h2; omega)]
        simp [addr_add]
      · rw [hget i hi]; exact hsz _ _
      · simp only [hget i hi] at hj
        rw [hoff i j (by omega)]; exact hcell _ _ j hj
      · simp only [hget i hi] at hj ⊢
        exact hrep _ _ j hj
    · exact h.elim
  · exact h.elim

theorem op_indexAddr {t : TypeId} {x ix : Operand} (hop : o.op = .indexAddr t x ix) : o.wpIn (Wd (rdOf m s)) n P a w K Q := by
  simp only [evOp, hop] at h
  have hv := hR.operand x
  split at h
  · rename_i i hi
    obtain ⟨q, hq⟩ := (hR.operand ix).int hi
    split at h
    · rename_i e he
      have hu := telem_inv he
      split at h
      · rename_i xs hxs
        obtain ⟨hez, h0, h1, h⟩ := h
        obtain ⟨ad, cap, sz, b, off, cv, ec, hc1, hc2, ha, hsz, hcell, hrep⟩ := (hv.slice hxs).sl_inv
        have hlt : i.toNat < xs.length := by omega
        obtain ⟨hlen, h⟩ := h xs[i.toNat] (List.getElem?_eq_getElem hlt)
        have hsz1 : sz = tsz P e := by rw [← hsz _ hlt]; exact hlen
        have hne : xs ≠ [] := fun e0 => by subst e0; simp at hlt
        have hrun : (Instr.indexAt t (a.eval x) (a.eval ix)).run P w = .ok (.pointer (some ⟨b, off + i.toNat * tsz P e, none⟩)) w := by
          simp only [Instr.indexAt, hq, asIntOf, Sem.run_bind, Sem.run_pure, Result.andThen_ok, run_underlying hu, ec, ha hne]
          rw [if_pos ⟨h0, by omega⟩]
          simp [run_sizeOf_ne hez, addr_add]
        refine op_value (w' := w) (by simp [hop]) (by simp only [execOp, hop]; exact execOp_v hrun) (next_put hR hd hK (.ref b _ (fun j => cv i.toNat j) (fun j hj => ?_) (fun j hj => hrep _ hlt j hj)) h)
        have := hcell _ hlt j hj
        rw [hsz1] at this; exact this
      · exact h.elim
    · split at h
      · rename_i nn e hte
        obtain ⟨hez, h0, h1, h2, h⟩ := h
        have hu := tarr_inv hte
        simp only at hu
        have hrun : ∀ b o', a.eval x = .pointer (some ⟨b, o', none⟩) → (Instr.indexAt t (a.eval x) (a.eval ix)).run P w = .ok (.pointer (some ⟨b, o' + i.toNat * tsz P e, none⟩)) w := by
          intro b o' ee
          simp only [Instr.indexAt, hq, asIntOf, Sem.run_bind, Sem.run_pure, Result.andThen_ok, run_underlying hu, ee, Instr.sureAddr]
          rw [if_pos ⟨h0, by omega⟩]
          simp [run_sizeOf_ne hez, addr_add]
        split at h
        · rename_i nm o' hx
          rw [hx] at hv
          exact op_value (w' := w) (by simp [hop]) (by simp only [execOp, hop]; exact execOp_v (hrun _ _ hv.ptr_inv)) (next_put hR hd hK .ptr h)
        · rename_i cs hx
          rw [hx] at hv
          obtain ⟨b, o', cv, ee, hcell, hrep⟩ := hv.ref_inv
          refine op_value (w' := w) (by simp [hop]) (by simp only [execOp, hop]; exact execOp_v (hrun _ _ ee)) (next_put hR hd hK (.ref b (o' + i.toNat * tsz P e) (fun j => cv (i.toNat * tsz P e + j)) (fun j hj => ?_) (fun j hj => ?_)) h)
          · have := hcell (i.toNat * tsz P e + j) (by simp at hj; omega)
            rw [← Nat.add_assoc] at this; exact this
          · simp only [List.getElem_drop]; exact hrep _ (by simp at hj; omega)
        · exact h.elim
      · exact h.elim
  · exact h.elim
end
end Go.Ab
