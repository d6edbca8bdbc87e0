import Derived.Test.YtllmddkakimloaaAbOp5
/-! Builtins. -/
namespace Go.Ab
set_option linter.all false
open Go Go.RowKit
variable {P : Program} {o : Oper} {a : Act} {w : World} {K : Act → World → Prop} {Q : Exit → Act → World → Prop} {n : Nat} {Mo : Cells} {m : Mp} {s : Sa} {sv : List Act} {k : Sa → Prop} {p : Name} {S : Sems}

theorem run_builtin {c : Call} {b : Builtin} (hop : o.op = .call c) (hc : c.callee = .builtin b) {f : Sem Value} (hb : builtin b c.argTypes o.type (c.args.map fun | .const _ => true | _ => false) (c.args.map a.eval) = (do pure (.value (← f)))) {v : Value} {w' : World}
    (hrun : f.run P w = .ok v w') : (execOp a.eval o).run P w = .ok (.value v) w' := by
  simp only [execOp, hop, resolve, hc, Sem.run_bind, Sem.run_pure, Result.andThen_ok, invoke]
  refine (congrArg (fun x => Sem.run P x w) hb).trans ?_
  simp [hrun]
theorem args_inv {c : Call} {s : Sa} {l : List V} (h : c.args.toList.map s.get = l) : c.args.size = l.length ∧ ∀ i (h1 : i < c.args.size) (h2 : i < l.length), s.get c.args[i] = l[i] := by
  subst h
  exact ⟨by simp, fun i h1 h2 => by simp⟩
theorem growBy_le (need : Nat) : ∀ (r c : Nat), 256 ≤ c → c ≤ 2 * need → Builtin.growBy need r c ≤ 2 * need := by
  intro r
  induction r with
  | zero => intro c _ h; simpa [Builtin.growBy] using h
  | succ r ih =>
    intro c h1 h2
    simp only [Builtin.growBy]
    split
    · exact h2
    · rename_i h3
      exact ih _ (by omega) (by omega)
theorem nextcap_le {need cap : Nat} (h : cap < need) : Builtin.nextslicecap need cap ≤ 2 * need := by
  unfold Builtin.nextslicecap
  split
  · omega
  · split
    · omega
    · exact growBy_le need 4 cap (by omega) (by omega)

section
variable (hR : Rel Mo m s (a :: sv) w) (hd : ∀ d, o.dst = some d → d < s.n) (hK : OpNext Mo m s o.dst a sv w k K) (h : evOp P S p o s k)
include hR hd hK h

theorem op_len {c : Call} (hop : o.op = .call c) (hc : c.callee = .builtin .len) : o.wpIn (Wd (rdOf m s)) n P a w K Q := by
  simp only [evOp, hop, hc] at h
  split at h
  · rename_i x t ts hargs htys
    obtain ⟨ha1, ha2⟩ := args_inv hargs
    have hx0 := ha2 0 (by simp at ha1; omega) (by simp)
    simp only [List.getElem_cons_zero] at hx0
    have ht0 : c.argTypes[0]? = some t := by rw [← Array.getElem?_toList, htys]; rfl
    have harg : (c.args.map a.eval)[0]? = some (a.eval (c.args[0]'(by simp at ha1; omega))) := by
      rw [Array.getElem?_map, Array.getElem?_eq_getElem (by simp at ha1; omega)]; rfl
    have hv := hR.operand (c.args[0]'(by simp at ha1; omega))
    rw [hx0] at hv
    split at h
    · rename_i e xs he hxs
      obtain ⟨ad, cap, sz, b, off, cv, ec, hc1, hc2, _⟩ := (hv.slice hxs).sl_inv
      refine op_value (v := .int .i64 xs.length) (w' := w) (by simp [hop]) (run_builtin hop hc rfl ?_) (next_put hR hd hK (.d (.v ?_)) h)
      · simp only [Builtin.len_, ht0, harg, ec, Sem.run_bind, run_underlying (telem_inv he), Result.andThen_ok]; rfl
      · simp [okLeaf, inR]; omega
    · split at h
      · rename_i b hu hx1
        obtain ⟨ec, hok⟩ := hv.val
        refine op_value (v := .int .i64 b.size) (w' := w) (by simp [hop]) (run_builtin hop hc rfl ?_) (next_put hR hd hK (.d (.v ?_)) h)
        · simp only [Builtin.len_, ht0, harg, ec, Sem.run_bind, run_underlying hu, Result.andThen_ok]; rfl
        · simp [okLeaf, inR] at hok ⊢; omega
      · rename_i nn e _ _
        obtain ⟨hnn, h⟩ := h
        have hu : P.underlying t = some (.array nn e) := by assumption
        refine op_value (v := .int .i64 nn) (w' := w) (by simp [hop]) (run_builtin hop hc rfl ?_) (next_put hR hd hK (.d (.v ?_)) h)
        · simp only [Builtin.len_, ht0, harg, Sem.run_bind, run_underlying hu, Result.andThen_ok]; rfl
        · simp [okLeaf, inR]; omega
      · exact h.elim
  · exact h.elim

theorem op_maxmin {c : Call} {b : Builtin} (hop : o.op = .call c) (hc : c.callee = .builtin b) (hb : b = .max ∨ b = .min) : o.wpIn (Wd (rdOf m s)) n P a w K Q := by
  have key : ∀ q x q' y, c.args.toList.map s.get = [.d (.v (.int q x)), .d (.v (.int q' y))] → (c.args.map a.eval).toList = [.int q x, .int q' y] ∧ okLeaf (.int q x) ∧ (q = q' → okLeaf (.int q y)) := by
    intro q x q' y hargs
    obtain ⟨ha1, ha2⟩ := args_inv hargs
    simp only [List.length_cons, List.length_nil] at ha1
    have h0 := ha2 0 (by omega) (by simp)
    have h1 := ha2 1 (by omega) (by simp)
    simp only [List.getElem_cons_zero, List.getElem_cons_succ] at h0 h1
    have v0 := hR.operand (c.args[0]'(by omega))
    have v1 := hR.operand (c.args[1]'(by omega))
    rw [h0] at v0
    rw [h1] at v1
    refine ⟨?_, v0.val.2, fun e => by rw [e]; exact v1.val.2⟩
    apply List.ext_getElem
    · simp [ha1]
    · intro i h2 h3
      simp at h3
      match i, h3 with
      | 0, _ => simp [v0.val.1]
      | 1, _ => simp [v1.val.1]
  rcases hb with rfl | rfl
  · simp only [evOp, hop, hc] at h
    split at h
    · rename_i q x q' y hargs
      obtain ⟨e, ok1, ok2⟩ := key _ _ _ _ hargs
      obtain ⟨rfl, h⟩ := h
      refine op_value (v := .int q (if y > x then y else x)) (w' := w) (by simp [hop]) (run_builtin hop hc rfl ?_) (next_put hR hd hK (.d (.v ?_)) h)
      · simp only [Builtin.max_, e]; simp [Builtin.max2]
      · split
        · exact ok2 rfl
        · exact ok1
    · exact h.elim
  · simp only [evOp, hop, hc] at h
    split at h
    · rename_i q x q' y hargs
      obtain ⟨e, ok1, ok2⟩ := key _ _ _ _ hargs
      obtain ⟨rfl, h⟩ := h
      refine op_value (v := .int q (if y < x then y else x)) (w' := w) (by simp [hop]) (run_builtin hop hc rfl ?_) (next_put hR hd hK (.d (.v ?_)) h)
      · simp only [Builtin.min_, e]; simp [Builtin.min2]
      · split
        · exact ok2 rfl
        · exact ok1
    · exact h.elim
end
end Go.Ab
