import Derived.Test.YtllmddkakimloaaAbSem
/-! Each operation does what 'evOp' says. -/
namespace Go.Ab
set_option linter.all false
open Go Go.RowKit
variable {P : Program} {o : Oper} {a : Act} {w : World} {K : Act → World → Prop} {Q : Exit → Act → World → Prop} {n : Nat} {Mo : Cells} {m : Mp} {s : Sa} {sv : List Act} {k : Sa → Prop} {p : Name} {S : Sems}

theorem execOp_v {f : Sem Value} {w' : World} {v : Value} (h : f.run P w = .ok v w') : ((do pure (Next.value (← f)) : Sem Next)).run P w = .ok (.value v) w' := by
  simp [h]
theorem execOp_u {f : Sem Unit} {w' : World} (h : f.run P w = .ok () w') : ((do f; pure Next.skip : Sem Next)).run P w = .ok .skip w' := by
  simp [h]
theorem telem_inv {t e : TypeId} (h : telem P t = some e) : P.underlying t = some (.slice e) := by
  unfold telem at h; split at h <;> simp_all
theorem tarr_inv {t : TypeId} {x : Nat × TypeId} (h : tarr P t = some x) : P.underlying t = some (.array x.1 x.2) := by
  unfold tarr at h; split at h <;> simp_all
  subst h; exact ⟨rfl, rfl⟩
theorem tfield_inv {t : TypeId} {i : Nat} {x : Nat × TypeId} (h : tfield P t i = some x) : ∃ fs f, P.underlying t = some (.struct fs) ∧ fs[i]? = some f ∧ f.offset = x.1 ∧ f.type = x.2 := by
  unfold tfield at h
  split at h
  · rename_i fs hfs
    simp only [Option.map_eq_some_iff] at h
    obtain ⟨f, hf, rfl⟩ := h
    exact ⟨fs, f, hfs, hf, rfl, rfl⟩
  · cases h
theorem tsz_some {t : TypeId} (h : tsz P t ≠ 0) : ∃ i, P.info? t = some i := by
  unfold tsz at h
  cases hi : P.info? t with
  | none => simp [hi] at h
  | some i => exact ⟨i, rfl⟩
theorem run_sizeOf_ne {t : TypeId} (h : tsz P t ≠ 0) : (sizeOf t).run P w = .ok (tsz P t) w := by
  obtain ⟨i, hi⟩ := tsz_some h
  simp [sizeOf, typeInfo, hi, tsz]

section
variable (hR : Rel Mo m s (a :: sv) w) (hd : ∀ d, o.dst = some d → d < s.n) (hK : OpNext Mo m s o.dst a sv w k K) (h : evOp P S p o s k)
include hR hd hK h

theorem op_move {x : Operand} (hop : o.op = .move x) : o.wpIn (Wd (rdOf m s)) n P a w K Q := by
  simp only [evOp, hop] at h
  exact op_value (v := a.eval x) (w' := w) (by simp [hop]) (by simp [execOp, hop]) (next_put hR hd hK (hR.operand x) h)
theorem op_assign {x : Operand} (hop : o.op = .assign x) : o.wpIn (Wd (rdOf m s)) n P a w K Q := by
  simp only [evOp, hop] at h
  obtain ⟨m', h1, h2, h3, h4, h5, h6, h7⟩ := hR.claim (hR.operand x) (o.dst.getD 0 :: p) (esz P o.type)
  refine op_value (v := a.eval x) (w' := w) (by simp [hop]) (by simp [execOp, hop]) ?_
  exact next_put' hK h1 (by rw [h7]; exact hd) h3 (by simp only [rdOf, h6, h5]) h2 h
theorem op_pick {c x y : Operand} (hop : o.op = .pick c x y) : o.wpIn (Wd (rdOf m s)) n P a w K Q := by
  simp only [evOp, hop] at h
  split at h
  · rename_i t hc
    have hv := hR.operand c
    rw [hc] at hv
    have e := hv.val.1
    cases t with
    | true => exact op_value (v := a.eval x) (w' := w) (by simp [hop]) (by simp [execOp, hop, e, asBool]) (next_put hR hd hK (hR.operand x) (h.1 rfl))
    | false => exact op_value (v := a.eval y) (w' := w) (by simp [hop]) (by simp [execOp, hop, e, asBool]) (next_put hR hd hK (hR.operand y) (h.2 rfl))
  · exact h.elim
theorem op_nilCheck {x : Operand} (hop : o.op = .nilCheck x) : o.wpIn (Wd (rdOf m s)) n P a w K Q := by
  simp only [evOp, hop] at h
  have hv := hR.operand x
  split at h
  · rename_i nm off hx
    rw [hx] at hv
    have e := hv.ptr_inv
    exact op_value (v := a.eval x) (w' := w) (by simp [hop]) (by simp [execOp, hop, e]) (next_put hR hd hK hv h)
  · rename_i cs hx
    rw [hx] at hv
    obtain ⟨b, off, cv, e, _, _⟩ := hv.ref_inv
    exact op_value (v := a.eval x) (w' := w) (by simp [hop]) (by simp [execOp, hop, e]) (next_put hR hd hK hv h)
  · exact h.elim
theorem op_binOp {op : BinOp} {t u : TypeId} {x y : Operand} (hop : o.op = .binOp op t x y u) : o.wpIn (Wd (rdOf m s)) n P a w K Q := by
  simp only [evOp, hop] at h
  have hx := hR.operand x
  have hy := hR.operand y
  have nilcase : ∀ {xs : List D} {aa : Option Addr} {cap : Nat} {e : TypeId}, telem P t = some e → (xs ≠ [] → ∃ q, aa = some q) → a.eval x = .slice aa xs.length cap → a.eval y = .slice none 0 0 →
      (match (generalizing := false) op with | .eql => (xs = [] → k (s.put o.dst (.d (.v (.bool true))))) ∧ k (s.put o.dst (.d (.v (.bool false)))) | .neq => (xs = [] → k (s.put o.dst (.d (.v (.bool false))))) ∧ k (s.put o.dst (.d (.v (.bool true)))) | _ => False) →
      o.wpIn (Wd (rdOf m s)) n P a w K Q := by
    intro xs aa cap e ht ha e1 e2 h
    have hu := telem_inv ht
    cases op <;> simp only at h
    case eql =>
      refine op_value (v := .bool aa.isNone) (w' := w) (by simp [hop]) (by simp only [execOp, hop]; rw [e1, e2]; exact execOp_v ((run_eqNil hu).1 rfl)) (next_put hR hd hK (v := .d (.v (.bool aa.isNone))) (.d (.v trivial)) ?_)
      cases aa with
      | none => exact h.1 (Classical.byContradiction fun hxs => by obtain ⟨q, hq⟩ := ha hxs; cases hq)
      | some q => exact h.2
    case neq =>
      refine op_value (v := .bool !aa.isNone) (w' := w) (by simp [hop]) (by simp only [execOp, hop]; rw [e1, e2]; exact execOp_v ((run_eqNil hu).2 rfl)) (next_put hR hd hK (v := .d (.v (.bool !aa.isNone))) (.d (.v trivial)) ?_)
      cases aa with
      | none => exact h.1 (Classical.byContradiction fun hxs => by obtain ⟨q, hq⟩ := ha hxs; cases hq)
      | some q => exact h.2
  split at h
  · rename_i d hd'
    rw [hd'] at hy
    split at h
    · rename_i c hc
      rw [hc] at hx
      obtain ⟨v, c', hk, hrun, hrep⟩ := run_bin (P := P) (w := w) (xo := x) (yo := y) h hx.val.2 hy.val.2
      refine op_value (v := c') (w' := w) (by simp [hop]) ?_ (next_put hR hd hK (hrep _ _) hk)
      simp only [execOp, hop]
      rw [hx.val.1, hy.val.1]
      exact execOp_v hrun
    · exact h.elim
  · rename_i ys hd'
    rw [hd'] at hy
    split at h
    · rename_i xs hc
      rw [hc] at hx
      have aggs : ∀ {zs : List D} {c : Value}, RepV w (Tot Mo s.bx s.ow m) m (.d (.agg zs)) c → ∃ vs : Array Value, c = .agg vs ∧ ∀ (j : Nat) v, zs[j]? = some (.v v) → vs[j]? = some v := by
        intro zs c hz
        cases hz with | d hz =>
        cases hz with | @agg _ vs hs hl hr =>
        refine ⟨vs, rfl, fun j v hj => ?_⟩
        obtain ⟨hj1, hj2⟩ := List.getElem?_eq_some_iff.1 hj
        have h1 := hr j hj1
        rw [hj2] at h1
        have hjs : j < vs.size := by omega
        rw [Array.getD_eq_getD_getElem?, Array.getElem?_eq_getElem hjs, Option.getD_some] at h1
        rw [Array.getElem?_eq_getElem hjs]
        cases h1; rfl
      obtain ⟨cs, ec, hcs⟩ := aggs hx
      obtain ⟨ds, ed, hds⟩ := aggs hy
      split at h
      · rename_i ks hks
        split at h
        · rename_i r hr
          have hf := run_flatEq (P := P) (w := w) hks hr hcs hds (op := op) (xo := x) (yo := y)
          cases op <;> simp only at h
          case eql => exact op_value (v := .bool r) (w' := w) (by simp [hop]) (by simp only [execOp, hop]; rw [ec, ed]; exact execOp_v (hf.1 rfl)) (next_put hR hd hK (v := .d (.v (.bool r))) (.d (.v trivial)) h)
          case neq => exact op_value (v := .bool !r) (w' := w) (by simp [hop]) (by simp only [execOp, hop]; rw [ec, ed]; exact execOp_v (hf.2 rfl)) (next_put hR hd hK (v := .d (.v (.bool !r))) (.d (.v trivial)) h)
        · exact h.elim
      · exact h.elim
    · exact h.elim
  · rename_i hd'
    rw [hd'] at hy
    have ey : a.eval y = .slice none 0 0 := by generalize a.eval y = c at hy; cases hy; rfl
    split at h
    · rename_i e hte
      split at h
      · rename_i hc
        rw [hc] at hx
        have ex : a.eval x = .slice none ([] : List D).length 0 := by generalize a.eval x = c at hx; cases hx; rfl
        have hu := telem_inv hte
        cases op <;> simp only at h
        case eql => exact op_value (v := .bool true) (w' := w) (by simp [hop]) (by simp only [execOp, hop]; rw [ex, ey]; exact execOp_v ((run_eqNil hu).1 rfl)) (next_put hR hd hK (v := .d (.v (.bool true))) (.d (.v trivial)) h)
        case neq => exact op_value (v := .bool false) (w' := w) (by simp [hop]) (by simp only [execOp, hop]; rw [ex, ey]; exact execOp_v ((run_eqNil hu).2 rfl)) (next_put hR hd hK (v := .d (.v (.bool false))) (.d (.v trivial)) h)
      · rename_i xs hc
        rw [hc] at hx
        generalize hex : a.eval x = c at hx
        cases hx with | d hx =>
        cases hx with | sl sz b off cv h1 h2 h3 h4 h5 h6 =>
        exact nilcase hte (fun hne => ⟨_, h3 hne⟩) hex ey h
      · rename_i xs hc
        rw [hc] at hx
        generalize hex : a.eval x = c at hx
        cases hx with
        | own hx _ _ =>
          cases hx with | sl sz b off cv h1 h2 h3 h4 h5 h6 =>
          exact nilcase hte (fun hne => ⟨_, h3 hne⟩) hex ey h
      · exact h.elim
    · exact h.elim
  · exact h.elim
theorem op_unOp {op : UnOp} {t : TypeId} {x : Operand} (hop : o.op = .unOp op t x) : o.wpIn (Wd (rdOf m s)) n P a w K Q := by
  simp only [evOp, hop] at h
  have hx := hR.operand x
  split at h
  · rename_i c hc
    rw [hc] at hx
    unfold unV at h
    split at h
    · rename_i b
      exact op_value (v := .bool !b) (w' := w) (by simp [hop]) (by simp only [execOp, hop, hx.val.1]; exact execOp_v (by simp only [Op.unary]; rfl)) (next_put hR hd hK (.d (.v (x := .bool !b) trivial)) h)
    · rename_i q x'
      exact op_value (v := .int q (q.wrap (0 - x'))) (w' := w) (by simp [hop]) (by simp only [execOp, hop, hx.val.1]; exact execOp_v (by simp only [Op.unary, Op.intArith]; rfl)) (next_put hR hd hK (.d (.v (inR_wrap _ _))) h)
    · exact h.elim
  · exact h.elim
theorem op_convert {t u : TypeId} {x : Operand} (hop : o.op = .convert t u x) : o.wpIn (Wd (rdOf m s)) n P a w K Q := by
  simp only [evOp, hop] at h
  have hx := hR.operand x
  split at h
  · rename_i kd q c hu hc
    rw [hc] at hx
    obtain ⟨hsrc, h⟩ := h
    obtain ⟨d, hd1⟩ := Option.isSome_iff_exists.1 hsrc
    refine op_value (v := .int kd (kd.wrap c)) (w' := w) (by simp [hop]) (by
      simp only [execOp, hop, hx.val.1]
      refine execOp_v (v := .int kd (kd.wrap c)) ?_
      simp only [convert, Sem.run_bind, run_underlying hd1, run_underlying hu, Result.andThen_ok]; rfl) (next_put hR hd hK (.d (.v (inR_wrap _ _))) h)
  · exact h.elim
theorem op_fieldAddr {t : TypeId} {x : Operand} {i : Nat} (hop : o.op = .fieldAddr t x i) : o.wpIn (Wd (rdOf m s)) n P a w K Q := by
  simp only [evOp, hop] at h
  split at h
  · rename_i off ft hf
    obtain ⟨hne, h⟩ := h
    obtain ⟨fs, f, hu, hfi, e1, e2⟩ := tfield_inv hf
    simp only at e1 e2
    have hv := hR.operand x
    have hrun : ∀ b o', (a.eval x) = .pointer (some ⟨b, o', none⟩) → (Instr.fieldAt t (a.eval x) i).run P w = .ok (.pointer (some ⟨b, o' + off, none⟩)) w := by
      intro b o' e
      simp only [Instr.fieldAt, Sem.run_bind, run_underlying hu, Result.andThen_ok, hfi, e, Instr.sureAddr, Sem.run_pure, fieldPlace, e2]
      rw [run_sizeOf_ne hne]
      simp only [Result.andThen_ok, if_neg hne, Sem.run_pure, addr_add, e1]
    split at h
    · rename_i nm o' hx
      rw [hx] at hv
      exact op_value (w' := w) (by simp [hop]) (by simp only [execOp, hop]; exact execOp_v (hrun _ _ hv.ptr_inv)) (next_put hR hd hK .ptr h)
    · rename_i cs hx
      rw [hx] at hv
      obtain ⟨b, o', cv, e, hcell, hrep⟩ := hv.ref_inv
      refine op_value (w' := w) (by simp [hop]) (by simp only [execOp, hop]; exact execOp_v (hrun _ _ e)) (next_put hR hd hK (.ref b (o' + off) (fun j => cv (off + j)) (fun j hj => ?_) (fun j hj => ?_)) h)
      · have := hcell (off + j) (by simp at hj; omega)
        rw [← Nat.add_assoc] at this; exact this
      · simp only [List.getElem_drop]; exact hrep (off + j) (by simp at hj; omega)
    · exact h.elim
  · exact h.elim
theorem op_extract {x : Operand} {i : Nat} (hop : o.op = .extract x i) : o.wpIn (Wd (rdOf m s)) n P a w K Q := by
  simp only [evOp, hop] at h
  have hx := hR.operand x
  split at h
  · rename_i vs hc
    rw [hc] at hx
    obtain ⟨cs, e, hs, hrep⟩ := hx.tup_inv
    split at h
    · rename_i v hv
      obtain ⟨hi, rfl⟩ := List.getElem?_eq_some_iff.1 hv
      have := hrep i hi
      refine op_value (v := cs.getD i undef) (w' := w) (by simp [hop]) (by
        simp only [execOp, hop, e]
        refine execOp_v ?_
        simp only [Instr.extract, Array.getElem?_eq_getElem (show i < cs.size by omega), Array.getD_eq_getD_getElem?, Option.getD_some]; rfl) (next_put hR hd hK this h)
    · exact h.elim
  · exact h.elim
theorem op_makeFunc {f : FuncId} {first cap : Array Operand} (hop : o.op = .makeFunc (.func f) first cap) : o.wpIn (Wd (rdOf m s)) n P a w K Q := by
  simp only [evOp, hop] at h
  obtain ⟨rfl, h⟩ := h
  refine op_value (v := .func (.func f) #[] (cap.map a.eval)) (w' := w) (by simp [hop]) (by simp [execOp, hop, Instr.makeFunc]) (next_put hR hd hK (.fn (by simp) (fun i hi => ?_)) h)
  simp only [List.length_map, Array.length_toList] at hi
  simp only [List.getElem_map, Array.getElem_toList]
  rw [Array.getD_eq_getD_getElem?, Array.getElem?_map, Array.getElem?_eq_getElem hi]
  exact hR.operand _
end
end Go.Ab
