import Derived.Test.YtllmddkakimloaaAbCall
/-! Regions and code. -/
namespace Go.Ab
set_option linter.all false
open Go Go.RowKit
variable {P : Program} {a : Act} {w : World} {Q : Exit → Act → World → Prop} {n : Nat} {Mo : Cells} {m : Mp} {s : Sa} {sv : List Act} {k : Sa → Prop} {p : Name}

theorem rep_undef {M : Cells} : RepV w M m (.tup []) undef := .tup (vs := #[]) rfl (fun i hi => by simp at hi)
theorem put_same {t : Nat} {c : Value} (h : a.tmps.getD t undef = c) : a.put (some t) c = a := by
  unfold Act.put
  simp only
  congr 1
  apply Array.ext
  · simp
  · intro i h1 h2
    rw [Array.getElem_setIfInBounds]
    split
    · rename_i e; subst e
      rw [← h, Array.getD_eq_getD_getElem?, Array.getElem?_eq_getElem h2]; rfl
    · rfl
theorem Rel.literal {t : Nat} {b : Bool} (hR : Rel Mo m s (a :: sv) w) (hl : lkT t s.ts = .d (.v (.bool b))) : Rel Mo m (s.put (some t) (.d (.v (.bool b)))) (a :: sv) w := by
  have h := hR.get t
  rw [hl] at h
  have e := h.val.1
  have hlt : t < s.n := by
    have hsz : a.tmps.size = s.n := hR.cur.size
    rw [← hsz]
    by_cases hx : t < a.tmps.size
    · exact hx
    · exfalso
      rw [Array.getD_eq_getD_getElem?, Array.getElem?_eq_none (by omega)] at e
      simp [undef] at e
  have := hR.put (dst := some t) (v := .d (.v (.bool b))) (c := .bool b) (fun d hd => by cases hd; exact hlt) (.d (.v trivial))
  rw [put_same e] at this; exact this
/-- What follows a region. -/
def RegNext (Mo : Cells) (m : Mp) (s : Sa) (ds : List Deferred) (sv : List Act) (w : World) (k : Sa → Prop) (Q : Exit → Act → World → Prop) : Prop :=
  ∀ m' s' a' w', k s' → Rel Mo m' s' (a' :: sv) w' → Step m s w m' s' w' → rdOf m' s' = rdOf m s → a'.defers = ds → Q .normal a' w'
theorem RegNext.step {ds : List Deferred} {m' : Mp} {s' : Sa} {w' : World} (h : RegNext Mo m s ds sv w k Q) (hs : Step m s w m' s' w') (hr : rdOf m' s' = rdOf m s) : RegNext Mo m' s' ds sv w' k Q :=
  fun m2 s2 a2 w2 hk hR hs2 hr2 hd => h m2 s2 a2 w2 hk hR (hs.trans hs2) (hr2.trans hr) hd
theorem put_defers {d : Option Tmp} {c : Value} : (a.put d c).defers = a.defers := by cases d <;> rfl
theorem yielded_bool {ops : Array Oper} {j t : Nat} {b : Bool} (hj : (ops[j]?).bind (·.dst) = some t) (h : a.tmps.getD t undef = .bool b) : yielded ops a.tmps j = some b := by
  unfold yielded
  rw [hj]
  rw [Array.getD_eq_getD_getElem?] at h
  cases hx : a.tmps[t]? with
  | none => rw [hx] at h; simp [undef] at h
  | some c => rw [hx] at h; simp at h; subst h; simp [hx]
theorem yielded_undef {ops : Array Oper} {j t : Nat} (hj : (ops[j]?).bind (·.dst) = some t) (h : a.tmps.getD t undef = .tuple #[]) : yielded ops a.tmps j = none := by
  unfold yielded
  rw [hj]
  rw [Array.getD_eq_getD_getElem?] at h
  cases hx : a.tmps[t]? with
  | none => simp [hx]
  | some c => rw [hx] at h; simp at h; subst h; simp [hx]

theorem evOps_sound (ops : Array Oper) : ∀ (os : List Oper) (l : List Nat), l.map (fun (i : Nat) => ops[i]?) = os.map some → ∀ (m : Mp) (s : Sa) (a : Act) (w : World), Rel Mo m s (a :: sv) w →
    RegNext Mo m s a.defers sv w k Q → evOps P (sems P) p ops os s k → wpOpsIn (Wd (rdOf m s)) n P ops Q l a w := by
  intro os
  induction os with
  | nil =>
    intro l hl m s a w hR hN h
    have : l = [] := by cases l <;> simp_all
    subst this
    exact hN m s a w h hR (Step.refl _ _ _) rfl rfl
  | cons o os ih =>
    intro l hl m s a w hR hN h
    cases l with
    | nil => simp at hl
    | cons i l =>
      simp only [List.map_cons, List.cons.injEq] at hl
      obtain ⟨hi, hl⟩ := hl
      simp only [evOps] at h
      obtain ⟨hd0, h⟩ := h
      have hd : ∀ (n' : Nat), n' = s.n → ∀ d, o.dst = some d → d < n' := fun n' e d hd => by rw [hd] at hd0; rw [e]; exact hd0
      simp only [wpOpsIn, hi]
      have run : ∀ (s1 : Sa), Rel Mo m s1 (a :: sv) w → s1.n = s.n → Step m s w m s1 w → rdOf m s1 = rdOf m s → evOp P (sems P) p o s1 (fun s' => evOps P (sems P) p ops os s' k) →
          o.wpIn (Wd (rdOf m s)) n P a w (wpOpsIn (Wd (rdOf m s)) n P ops Q l) Q := by
        intro s1 hR1 hn1 hs1 hr1 h1
        rw [← hr1]
        refine evOp_sound hR1 (hd _ hn1) (fun m' s' v w' hk hR' hs' hr' => ?_) h1
        rw [← hr']
        exact ih l hl m' s' _ w' hR' (by rw [put_defers]; exact hN.step (hs1.trans hs') (hr'.trans hr1)) hk
      have skip : ∀ (s1 : Sa), Rel Mo m s1 (a :: sv) w → s1.n = s.n → Step m s w m s1 w → rdOf m s1 = rdOf m s → evOps P (sems P) p ops os (s1.put o.dst (.tup [])) k →
          (∀ f, o.about P w a.eval = some f → (Wd (rdOf m s)).fn f) ∧ wpOpsIn (Wd (rdOf m s)) n P ops Q l (a.put o.dst undef) w := by
        intro s1 hR1 hn1 hs1 hr1 h1
        refine ⟨fun _ _ => trivial, ?_⟩
        have hR2 := hR1.put (dst := o.dst) (hd _ hn1) (rep_undef (w := w) (M := Tot Mo s1.bx s1.ow m) (m := m))
        have hr2 : rdOf m (s1.put o.dst (.tup [])) = rdOf m s := by rw [rdOf_put]; exact hr1
        rw [← hr2]
        exact ih l hl m _ _ w hR2 (by rw [put_defers]; exact hN.step (step_put hs1) hr2) h1
      split at h
      · rename_i hg
        have hw : Region.wanted o (yielded ops a.tmps) = true := by simp [Region.wanted, hg]
        rw [if_pos hw]
        exact run s hR rfl (Step.refl _ _ _) rfl h
      · rename_i j want hg
        split at h
        · rename_i t hjt
          split at h
          · rename_i b hb
            have hv := hR.get t
            rw [hb] at hv
            have hy := yielded_bool hjt hv.val.1
            have hw : Region.wanted o (yielded ops a.tmps) = (some b == some want) := by simp [Region.wanted, hg, hy]
            have hRl := hR.literal hb
            have hst : Step m s w m (s.put (some t) (.d (.v (.bool b)))) w := step_put (Step.refl _ _ _)
            cases b with
            | true =>
              have h := h.1 rfl
              cases want with
              | true => rw [if_pos (by rw [hw]; rfl)]; exact run _ hRl (by rfl) hst (by rfl) h
              | false => rw [if_neg (by rw [hw]; simp)]; exact skip _ hRl (by rfl) hst (by rfl) h
            | false =>
              have h := h.2 rfl
              cases want with
              | true => rw [if_neg (by rw [hw]; simp)]; exact skip _ hRl (by rfl) hst (by rfl) h
              | false => rw [if_pos (by rw [hw]; rfl)]; exact run _ hRl (by rfl) hst (by rfl) h
          · rename_i hb
            have hv := hR.get t
            rw [hb] at hv
            obtain ⟨cs, e, hs, _⟩ := hv.tup_inv
            have e2 : cs = #[] := by cases cs; simp at hs; subst hs; rfl
            rw [e2] at e
            have hy := yielded_undef hjt e
            have hw : Region.wanted o (yielded ops a.tmps) = false := by simp [Region.wanted, hg, hy]
            rw [if_neg (by rw [hw]; simp)]
            exact skip s hR rfl (Step.refl _ _ _) rfl h
          · exact h.elim
        · exact h.elim

/-! ### Code -/
theorem TC.mono {c : Code} {Q Q' : Ex → Sa → Prop} (h : TC P p c s Q) (hq : ∀ e s', Q e s' → Q' e s') : TC P p c s Q' := fun Mo m a sv w n hR =>
  wpIn_mono (h Mo m a sv w n hR) (fun e a' w' ⟨x, m', s', h1, h2, h3⟩ => ⟨x, m', s', h1, hq _ _ h2, h3⟩)
theorem NewMarks.refl {ds : List Deferred} : NewMarks ds w ds := fun _ h => .inl h
theorem CodePost.step {m' : Mp} {s' : Sa} {w' : World} {ds ds' : List Deferred} {Q : Ex → Sa → Prop} {e : Exit} {a' : Act} {w2 : World} (hs : Step m s w m' s' w') (hr : rdOf m' s' = rdOf m s) (hm : NewMarks ds w ds') (h : CodePost Mo m' s' ds' sv w' Q e a' w2) : CodePost Mo m s ds sv w Q e a' w2 := by
  obtain ⟨x, m2, s2, h1, h2, h3, h4, h5, h6⟩ := h
  refine ⟨x, m2, s2, h1, h2, h3, hs.trans h4, h5.trans hr, fun d hd => ?_⟩
  rcases h6 d hd with h | ⟨r, e, hr⟩
  · exact hm d h
  · exact .inr ⟨r, e, Nat.le_trans hs.keeps.size hr⟩
theorem TC_region {id : Nat} {ops : Array Oper} {Q : Ex → Sa → Prop} (h : evOps P (sems P) p ops ops.toList s (Q .norm)) : TC P p (.region id ops false) s Q := fun Mo m a sv w n hR => by
  refine wpIn_region (evOps_sound ops ops.toList (List.range ops.size) ?_ m s a w hR ?_ h)
  · apply List.ext_getElem
    · simp
    · intro i h1 h2
      simp at h1
      simp [h1]
  · intro m' s' a' w' hk hR' hs hr hd
    exact ⟨.norm, m', s', rfl, hk, hR', hs, hr, by rw [hd]; exact .refl⟩
theorem TC_seq {x y : Code} {Q : Ex → Sa → Prop} (h : TC P p x s (fun e s' => match e with | .norm => TC P p y s' Q | e => Q e s')) : TC P p (.seq x y) s Q := fun Mo m a sv w n hR => by
  refine wpIn_seq (wpIn_mono (h Mo m a sv w n hR) ?_)
  rintro e a' w' ⟨ex, m', s', h1, h2, h3, h4, h5, h6⟩
  cases e with
  | normal =>
    cases h1
    have := h2 Mo m' a' sv w' n h3
    rw [h5] at this
    exact wpIn_mono this (fun e a2 w2 hp => hp.step h4 h5 h6)
  | exit i => cases h1; exact ⟨_, m', s', rfl, h2, h3, h4, h5, h6⟩
  | ret => cases h1; exact ⟨_, m', s', rfl, h2, h3, h4, h5, h6⟩
  | goto l => cases h1
  | panic c => cases h1
  | outgrown => cases h1
theorem TC_skip {Q : Ex → Sa → Prop} (h : Q .norm s) : TC P p .skip s Q := fun _ m _ _ _ _ hR => wpIn_skip ⟨.norm, m, s, rfl, h, hR, Step.refl _ _ _, rfl, .refl⟩
theorem TC_exit {id : Nat} {Q : Ex → Sa → Prop} (h : Q (.exit id) s) : TC P p (.exit id) s Q := fun _ m _ _ _ _ hR => wpIn_exit ⟨.exit id, m, s, rfl, h, hR, Step.refl _ _ _, rfl, .refl⟩
theorem TC_ret {Q : Ex → Sa → Prop} (h : Q .ret s) : TC P p .ret s Q := fun _ m _ _ _ _ hR => wpIn_ret ⟨.ret, m, s, rfl, h, hR, Step.refl _ _ _, rfl, .refl⟩
theorem TC_cond {c : Operand} {x y : Code} {b : Bool} {Q : Ex → Sa → Prop} (hc : s.get c = .d (.v (.bool b))) (h : CaseB b (TC P p x s Q) (TC P p y s Q)) : TC P p (.cond c x y) s Q := fun Mo m a sv w n hR => by
  have hv := hR.operand c
  rw [hc] at hv
  refine wpIn_cond hv.val.1 ?_
  cases b with
  | true => exact h.1 rfl Mo m a sv w n hR
  | false => exact h.2 rfl Mo m a sv w n hR
theorem TC_block {id : Nat} {c : Code} {Q : Ex → Sa → Prop} (h : TC P p c s (fun e s' => match e with | .exit i => if i = id then Q .norm s' else Q (.exit i) s' | e => Q e s')) : TC P p (.block id c) s Q := fun Mo m a sv w n hR => by
  refine wpIn_block (wpIn_mono (h Mo m a sv w n hR) ?_)
  rintro e a' w' ⟨ex, m', s', h1, h2, h3, h4, h5, h6⟩
  cases e with
  | normal => cases h1; exact ⟨_, m', s', rfl, h2, h3, h4, h5, h6⟩
  | exit i =>
    cases h1
    simp only at h2
    by_cases e : i = id
    · rw [if_pos e] at h2
      simp only [Exit.inBlock, if_pos e]; exact ⟨_, m', s', rfl, h2, h3, h4, h5, h6⟩
    · rw [if_neg e] at h2
      simp only [Exit.inBlock, if_neg e]; exact ⟨_, m', s', rfl, h2, h3, h4, h5, h6⟩
  | ret => cases h1; exact ⟨_, m', s', rfl, h2, h3, h4, h5, h6⟩
  | goto l => cases h1
  | panic c => cases h1
  | outgrown => cases h1

theorem ev_mono {c : Code} : ∀ {s : Sa} {Q Q' : Ex → Sa → Prop}, (∀ e s', Q e s' → Q' e s') → ev P (sems P) p c s Q → TC P p c s Q' := by
  induction c with
  | skip => exact fun hq h => TC_skip (hq _ _ h)
  | region id ops d =>
    intro s Q Q' hq h
    cases d with
    | false => exact (TC_region h).mono hq
    | true => exact TC.mono h hq
  | seq x y ihx ihy =>
    intro s Q Q' hq h
    refine TC_seq (ihx ?_ h)
    intro e s' hx
    cases e with
    | norm => exact ihy hq hx
    | exit i => exact hq _ _ hx
    | ret => exact hq _ _ hx
  | cond c x y ihx ihy =>
    intro s Q Q' hq h
    simp only [ev] at h
    split at h
    · rename_i b hb
      exact TC_cond hb ⟨fun e => ihx hq (h.1 e), fun e => ihy hq (h.2 e)⟩
    · exact h.elim
  | block id b ih =>
    intro s Q Q' hq h
    refine TC_block (ih ?_ h)
    intro e s' hx
    cases e with
    | norm => exact hq _ _ hx
    | exit i =>
      simp only at hx ⊢
      split
      · rename_i e; rw [if_pos e] at hx; exact hq _ _ hx
      · rename_i e; rw [if_neg e] at hx; exact hq _ _ hx
    | ret => exact hq _ _ hx
  | loop b ih => exact fun hq h => TC.mono h hq
  | rangeFunc f ps x y ihx ihy => exact fun hq h => TC.mono h hq
  | exit id => exact fun hq h => TC_exit (hq _ _ h)
  | ret => exact fun hq h => TC_ret (hq _ _ h)
  | scope b ih => exact fun hq h => h.elim
  | label l => exact fun hq h => h.elim
  | goto l => exact fun hq h => h.elim
  | refuse why => exact fun hq h => h.elim
/-- **Code does what 'ev' says.** -/
theorem ev_sound {c : Code} {Q : Ex → Sa → Prop} (h : ev P (sems P) p c s Q) : TC P p c s Q := ev_mono (fun _ _ h => h) h
end Go.Ab
