import Derived.Test.YtllmddkakimloaaAbOp
/-! Operations that read or write memory. -/
namespace Go.Ab
set_option linter.all false
open Go Go.RowKit
variable {P : Program} {o : Oper} {a : Act} {w : World} {K : Act → World → Prop} {Q : Exit → Act → World → Prop} {n : Nat} {Mo : Cells} {m : Mp} {s : Sa} {sv : List Act} {k : Sa → Prop} {p : Name} {S : Sems}

theorem constV_bxs (v : Value) : (constV v).bxs = [] := by
  unfold constV
  split
  · simp [V.bxs]
  · split <;> simp [V.bxs]
  · split <;> simp [V.bxs]
theorem claim_refs {s : Sa} {i : Name} {z : Option Nat} {v : V} {f : Name} (h : AllV (fun v => f ∉ v.bxs) s) : AllV (fun v => f ∉ v.bxs) (s.claim i z v).2 := by
  unfold Sa.claim
  split
  · refine ⟨fun t => ?_, fun g hg t => ?_, fun n c hn => ?_⟩
    · simp only [Sa.strip]
      rw [look_mapT _ (by simp [V.strip]), V.bxs_strip]; exact h.ts t
    · simp only [Sa.strip, List.mem_map] at hg
      obtain ⟨g', hg', rfl⟩ := hg
      rw [look_mapT _ (by simp [V.strip]), V.bxs_strip]; exact h.sv g' hg' t
    · simp only [Sa.strip] at hn
      rw [lookN_map] at hn
      cases hc : lookN n s.bx with
      | none => simp [hc] at hn
      | some c' => simp [hc] at hn; subst hn; rw [V.bxs_strip]; exact h.bx n c' hc
  · exact h
theorem claim_look {s : Sa} {i : Name} {z : Option Nat} {v : V} {f : Name} (h : lookN f s.bx = none) : lookN f (s.claim i z v).2.bx = none := by
  unfold Sa.claim
  split
  · simp only [Sa.strip]; rw [lookN_map, h]; rfl
  · exact h
theorem claim_bxs {s : Sa} {i : Name} {z : Option Nat} {v : V} {f : Name} (h : f ∉ v.bxs) : f ∉ (s.claim i z v).1.bxs := by
  unfold Sa.claim
  split
  · simp [V.bxs]
  · exact h
theorem claim_cells {s : Sa} {i : Name} {z : Option Nat} {v : V} (h : isCells v = true) : isCells (s.claim i z v).1 = true := by
  unfold Sa.claim
  split
  · rfl
  · exact h
theorem claim_len {s : Sa} {i : Name} {z : Option Nat} {v : V} : (s.claim i z v).1.cells.length = v.cells.length := by
  unfold Sa.claim
  split <;> rfl
theorem look_all {P : V → Prop} {s : Sa} (h : AllV P s) (h0 : ∀ v, P (constV v)) (h1 : P .dead) (h2 : ∀ g, P (.d (.v (.func (.func g) #[] #[])))) (x : Operand) : P (s.get x) := by
  cases x with
  | tmp t => exact h.ts t
  | const v => exact h0 v
  | global g => exact h1
  | func g => exact h2 g

/-- A variable of its own is laid. -/
theorem box_next (hR : Rel Mo m s (a :: sv) w) (hd : ∀ d, o.dst = some d → d < s.n) (hK : OpNext Mo m s o.dst a sv w k K) {v : V} {c : Value} (hv : RepV w (Tot Mo s.bx s.ow m) m v c)
    (hc : isCells v = true) (f i : Name) (z : Option Nat) (T : TypeId) (hr : s.refs f = false) (hn : lookN f s.bx = none) (hvb : f ∉ v.bxs)
    (h : k ({ (s.claim i z v).2 with bx := (f, (s.claim i z v).1) :: (s.claim i z v).2.bx }.put o.dst (.ptr f 0))) :
    K (a.put o.dst (.pointer (some ⟨w.heap.size, 0, none⟩))) (w.alloc (.cells c.cells T)) := by
  obtain ⟨m', h1, h2, h3, h4, h5, h6, h7⟩ := hR.claim hv i z
  obtain ⟨h8, h9⟩ := h1.newBox h2 (claim_cells hc) f (claim_refs (Sa.refs_all hr)) (claim_look hn) (claim_bxs hvb) T
  refine next_put' hK h8 (by simp only [h7]; exact hd) (h3.trans h9) (by simp only [rdOf, h6, h5]) ?_ h
  have := RepV.ptr (w := w.alloc (.cells c.cells T)) (M := Tot Mo ((f, (s.claim i z v).1) :: (s.claim i z v).2.bx) (s.claim i z v).2.ow { m' with bx := fun n => if n = f then w.heap.size else m'.bx n }) (m := { m' with bx := fun n => if n = f then w.heap.size else m'.bx n }) (n := f) (off := 0)
  simpa using this

section
variable (hR : Rel Mo m s (a :: sv) w) (hd : ∀ d, o.dst = some d → d < s.n) (hK : OpNext Mo m s o.dst a sv w k K) (h : evOp P S p o s k)
include hR hd hK h

theorem op_alloc {t : TypeId} (hop : o.op = .alloc t) : o.wpIn (Wd (rdOf m s)) n P a w K Q := by
  simp only [evOp, hop] at h
  obtain ⟨_, hc, hr, hn, h⟩ := h
  obtain ⟨i, z, hi, hz, hcz⟩ : ∃ i z, P.info? t = some i ∧ i.zero = some z ∧ tzero P t = constV z := by
    unfold tzero at hc ⊢
    cases hi : P.info? t with
    | none => simp [hi, isCells] at hc
    | some i =>
      cases hz : i.zero with
      | none => simp [hi, hz, isCells] at hc
      | some z => exact ⟨i, z, rfl, hz, by simp [hz]⟩
  have hrun : (Instr.alloc t true (.tuple #[])).run P w = .ok (.pointer (some ⟨w.heap.size, 0, none⟩)) (w.alloc (.cells z.cells t)) := by
    simp [Instr.alloc, zeroValue, typeInfo, hi, hz, newVar, newRow]
  exact op_value (by simp [hop]) (by simp only [execOp, hop]; exact execOp_v hrun)
    (box_next hR hd hK (by rw [hcz]; exact repV_const z) hc _ _ _ t hr hn (by rw [hcz, constV_bxs]; simp) h)
theorem op_box {t : TypeId} {x : Operand} (hop : o.op = .box t x) : o.wpIn (Wd (rdOf m s)) n P a w K Q := by
  simp only [evOp, hop] at h
  obtain ⟨hc, hr, hn, h⟩ := h
  have hrun : (Instr.box t (a.eval x)).run P w = .ok (.pointer (some ⟨w.heap.size, 0, none⟩)) (w.alloc (.cells (a.eval x).cells t)) := by
    simp [Instr.box, newVar, newRow]
  exact op_value (by simp [hop]) (by simp only [execOp, hop]; exact execOp_v hrun)
    (box_next hR hd hK (hR.operand x) hc _ _ _ t hr hn (look_all (Sa.refs_all hr) (fun v => by rw [constV_bxs]; simp) (by simp [V.bxs]) (fun g => by simp [V.bxs]) x) h)
theorem op_load {t : TypeId} {x : Operand} (hop : o.op = .load t x) : o.wpIn (Wd (rdOf m s)) n P a w K Q := by
  simp only [evOp, hop] at h
  have hv := hR.operand x
  split at h
  · rename_i ag hag
    obtain ⟨hz, h⟩ := h
    split at h
    · rename_i nm off hx
      rw [hx] at hv
      split at h
      · rename_i c hc
        obtain ⟨hle, h⟩ := h
        obtain ⟨cs, T, hb⟩ := hR.box nm c hc
        have hcell : ∀ j, j < tsz P t → w.cell? ⟨m.bx nm, off + j, none⟩ = some (cs.getD (off + j) undef) := fun j hj => by
          rw [cell_of_block hb.heap, Array.getD_eq_getD_getElem?, Array.getElem?_eq_getElem (by have := hb.size; omega)]; rfl
        have hcl : ∀ j, j < c.cells.length → leaf (cs.getD j undef) = true := hb.leafs
        refine op_value (w' := w) (by simp [hop]) (by
          simp only [execOp, hop, hv.ptr_inv, Instr.loadAt, Instr.sureAddr]
          exact execOp_v (by simp only [Sem.run_bind, Sem.run_pure, Result.andThen_ok]; exact run_loadVar (fun j => cs.getD (off + j) undef) hag hz hcell)) (next_put hR hd hK ?_ h)
        exact repV_loadBox (f := fun j => cs.getD (off + j) undef) hle hz (fun j hj => hcl _ (by omega)) (fun j hj => hb.rep _ (by omega))
      · exact h.elim
    · rename_i cs hx
      obtain ⟨hle, h⟩ := h
      rw [hx] at hv
      obtain ⟨b, off, cv, e, hcell, hrep⟩ := hv.ref_inv
      refine op_value (w' := w) (by simp [hop]) (by
          simp only [execOp, hop, e, Instr.loadAt, Instr.sureAddr]
          exact execOp_v (by simp only [Sem.run_bind, Sem.run_pure, Result.andThen_ok]; exact run_loadVar cv hag hz (fun j hj => (hcell j (by omega)).1))) (next_put hR hd hK ?_ h)
      exact repV_takeD hle hz (fun j hj => (hcell j (by omega)).2.1) (fun j hj => hrep j hj)
    · exact h.elim
  · exact h.elim
end
end Go.Ab
