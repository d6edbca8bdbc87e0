import Derived.Test.YtllmddkakimloaaAbDraw
namespace Go.Ab
set_option linter.all false
open Go Go.RowKit
variable {P : Program} {a : Act} {w : World} {n : Nat} {Mo : Cells} {m : Mp} {s : Sa} {p : Name} {k : Sa → Prop} {Q : Exit → Act → World → Prop} {sv : List Act} {ops : Array Oper}

theorem evOp_semsP {o : Oper} (h : evOp P (semsP P) p o s k) : evOp P (sems P) p o s k := by
  cases hop : o.op with
  | call c =>
    cases hcc : c.callee with
    | value f =>
      simp only [evOp, hop, hcc] at h ⊢
      split at h
      · obtain ⟨h1, ds, rs, h2, h3, h4⟩ := h
        exact ⟨h1, TCall_pure (p := []) h3 h2 h4⟩
      · obtain ⟨h1, ds, rs, h2, h3, h4⟩ := h
        exact ⟨h1, TCall_pure (p := []) h3 h2 h4⟩
      · exact h.elim
      · exact h.elim
    | invoke r nm => simp [evOp, hop, hcc] at h
    | builtin b =>
      cases b with
      | len => simpa only [evOp, hop, hcc] using h
      | append => simpa only [evOp, hop, hcc] using h
      | max => simpa only [evOp, hop, hcc] using h
      | min => simpa only [evOp, hop, hcc] using h
      | _ => simp [evOp, hop, hcc] at h
  | makeFunc fn fi ca => cases fn with
    | func f => simpa only [evOp, hop] using h
    | _ => simp [evOp, hop] at h
  | slice t x lo hi mx => cases mx with
    | none => simpa only [evOp, hop] using h
    | some y => simp [evOp, hop] at h
  | _ => first | (simpa only [evOp, hop] using h) | (simp [evOp, hop] at h; done)

/-- One operation. -/
theorem op1_sound {i : Nat} {o : Oper} {K : Act → World → Prop} (hi : ops[i]? = some o) (hR : Rel Mo m s (a :: sv) w)
    (hN : ∀ m' s' a' w', k s' → Rel Mo m' s' (a' :: sv) w' → Step m s w m' s' w' → rdOf m' s' = rdOf m s → a'.defers = a.defers → K a' w')
    (h : evOps P (sems P) p ops [o] s k) : wpOpIn (Wd (rdOf m s)) n P ops Q i K a w := by
  simp only [evOps] at h
  obtain ⟨hd0, h⟩ := h
  have hd : ∀ (n' : Nat), n' = s.n → ∀ d, o.dst = some d → d < n' := fun n' e d hd => by rw [hd] at hd0; rw [e]; exact hd0
  unfold wpOpIn
  simp only [hi]
  have run : ∀ (s1 : Sa), Rel Mo m s1 (a :: sv) w → s1.n = s.n → Step m s w m s1 w → rdOf m s1 = rdOf m s → evOp P (sems P) p o s1 k →
      o.wpIn (Wd (rdOf m s)) n P a w K Q := by
    intro s1 hR1 hn1 hs1 hr1 h1
    rw [← hr1]
    exact evOp_sound hR1 (hd _ hn1) (fun m' s' v w' hk hR' hs' hr' => hN m' s' _ w' hk hR' (hs1.trans hs') (hr'.trans hr1) put_defers) h1
  have skip : ∀ (s1 : Sa), Rel Mo m s1 (a :: sv) w → s1.n = s.n → Step m s w m s1 w → rdOf m s1 = rdOf m s → k (s1.put o.dst (.tup [])) →
      (∀ f, o.about P w a.eval = some f → (Wd (rdOf m s)).fn f) ∧ K (a.put o.dst undef) w := by
    intro s1 hR1 hn1 hs1 hr1 h1
    refine ⟨fun _ _ => trivial, ?_⟩
    have hR2 := hR1.put (dst := o.dst) (hd _ hn1) (rep_undef (w := w) (M := Tot Mo s1.bx s1.ow m) (m := m))
    exact hN m _ _ w h1 hR2 (step_put hs1) (by rw [rdOf_put]; exact hr1) put_defers
  split at h
  · rename_i hg
    have hw : Region.wanted o (yielded ops a.tmps) = true := by simp [Region.wanted, hg]
    rw [if_pos hw]
    exact run s hR rfl (Step.refl _ _ _) rfl h
  · rename_i j want hg
    split at h
    · rename_i t hjt
      split at h
      · rename_i b hb
        have hv := hR.get t
        rw [hb] at hv
        have hy := yielded_bool hjt hv.val.1
        have hw : Region.wanted o (yielded ops a.tmps) = (some b == some want) := by simp [Region.wanted, hg, hy]
        have hRl := hR.literal hb
        have hst : Step m s w m (s.put (some t) (.d (.v (.bool b)))) w := step_put (Step.refl _ _ _)
        cases b with
        | true =>
          have h := h.1 rfl
          cases want with
          | true => rw [if_pos (by rw [hw]; rfl)]; exact run _ hRl (by rfl) hst (by rfl) h
          | false => rw [if_neg (by rw [hw]; simp)]; exact skip _ hRl (by rfl) hst (by rfl) h
        | false =>
          have h := h.2 rfl
          cases want with
          | true => rw [if_neg (by rw [hw]; simp)]; exact skip _ hRl (by rfl) hst (by rfl) h
          | false => rw [if_pos (by rw [hw]; rfl)]; exact run _ hRl (by rfl) hst (by rfl) h
      · rename_i hb
        have hv := hR.get t
        rw [hb] at hv
        obtain ⟨cs, e, hs, _⟩ := hv.tup_inv
        have hcs : cs = #[] := by simpa using hs
        subst hcs
        have hy := yielded_undef hjt e
        rw [if_neg (by simp [Region.wanted, hg, hy])]
        exact skip s hR rfl (Step.refl _ _ _) rfl h
      · exact h.elim
    · exact h.elim

/-! ### States that say the same -/
structure Like (s s' : Sa) : Prop where
  rd : s.rd = s'.rd
  n : s.n = s'.n
  sv : s.sv = s'.sv
  bx : s.bx = s'.bx
  lp : s.lp = s'.lp
  ow : s.ow = s'.ow
  ts : ∀ t, lkT t s.ts = lkT t s'.ts
theorem Like.refl (s : Sa) : Like s s := ⟨rfl, rfl, rfl, rfl, rfl, rfl, fun _ => rfl⟩
theorem Like.trans {s s' s'' : Sa} (h : Like s s') (h' : Like s' s'') : Like s s'' := ⟨h.rd.trans h'.rd, h.n.trans h'.n, h.sv.trans h'.sv, h.bx.trans h'.bx, h.lp.trans h'.lp, h.ow.trans h'.ow, fun t => (h.ts t).trans (h'.ts t)⟩
theorem Like.symm {s s' : Sa} (h : Like s s') : Like s' s := ⟨h.rd.symm, h.n.symm, h.sv.symm, h.bx.symm, h.lp.symm, h.ow.symm, fun t => (h.ts t).symm⟩
theorem lkT_setT' (t u : Nat) (v : V) (l : List (Nat × V)) : lkT t (setT u v l) = if u = t then v else lkT t l := by
  induction l with
  | nil => simp [setT, lkT]
  | cons x l ih =>
    obtain ⟨y, z⟩ := x
    simp only [setT]
    split
    · rename_i e; subst e; simp only [lkT]; split <;> rfl
    · rename_i e
      simp only [lkT, ih]
      split
      · rename_i e2; subst e2; rw [if_neg (by intro e3; exact e e3.symm)]
      · rfl
theorem Like.put {s s' : Sa} (h : Like s s') (d : Option Tmp) (v : V) : Like (s.put d v) (s'.put d v) := by
  cases d with
  | none => exact h
  | some d => exact ⟨h.rd, h.n, h.sv, h.bx, h.lp, h.ow, fun t => by simp only [Sa.put, lkT_setT', h.ts t]⟩
theorem Like.literal {t : Nat} {v : V} (h : lkT t s.ts = v) : Like (s.put (some t) v) s := ⟨rfl, rfl, rfl, rfl, rfl, rfl, fun u => by
  simp only [Sa.put, lkT_setT']; split
  · rename_i e; subst e; exact h.symm
  · rfl⟩
theorem Like.wk {s s' : Sa} (h : Like s s') : Wk s s' := Wk.of h.rd.symm h.n.symm h.lp.symm (fun t => .inl (h.ts t).symm) h.sv.symm (fun nm c hc => by rw [h.bx]; exact hc) (fun i hi => by rw [h.ow]; exact hi)
end Go.Ab
