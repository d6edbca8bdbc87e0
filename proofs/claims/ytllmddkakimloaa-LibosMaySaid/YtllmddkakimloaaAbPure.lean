import Derived.Test.YtllmddkakimloaaAbEnter
/-! Functions on data alone; loops; forgetting. -/
namespace Go.Ab
set_option linter.all false
open Go Go.RowKit
variable {P : Program} {w : World} {n : Nat} {Mo : Cells} {m : Mp} {s : Sa} {as : List Act} {p : Name}

mutual
def D.wf : D → Prop
  | .v x => okLeaf x
  | .agg cs => D.wfL cs
  | .sl xs => xs.length ≤ 9223372036854775807 ∧ D.wfL xs
def D.wfL : List D → Prop
  | [] => True
  | x :: xs => x.wf ∧ D.wfL xs
end
theorem wfL_iff {xs : List D} : D.wfL xs ↔ ∀ i (hi : i < xs.length), xs[i].wf := by
  induction xs with
  | nil => simp [D.wfL]
  | cons x xs ih =>
    simp only [D.wfL, ih]
    constructor
    · rintro ⟨h1, h2⟩ i hi
      cases i with
      | zero => exact h1
      | succ i => exact h2 i (by simpa using hi)
    · intro h
      exact ⟨h 0 (by simp), fun i hi => h (i + 1) (by simpa using hi)⟩
theorem wf_cells {x : D} (h : ∀ j (hj : j < x.cells.length), (x.cells[j]).wf) : x.wf := by
  cases x with
  | v c => exact h 0 (by simp [D.cells])
  | agg cs => simp only [D.wf]; exact wfL_iff.2 h
  | sl xs => exact h 0 (by simp [D.cells])
theorem RepD.wf {M : Cells} {x : D} {c : Value} (h : RepD w M x c) : x.wf := by
  induction h with
  | v h => exact h
  | agg hs hl _ ih => simp only [D.wf]; exact wfL_iff.2 ih
  | sl sz b off cv hc hm ha hsz hcell _ ih =>
    simp only [D.wf]
    exact ⟨hm, wfL_iff.2 fun i hi => wf_cells (ih i hi)⟩

/-- What a function answers to data, whatever the memory: data. -/
def PureOK (P : Program) (f : FuncId) (ds rs : List D) : Prop :=
  ∀ (M : Cells) (w : World) (n : Nat) (vs : Array Value), (∀ b o, M b o → b < w.heap.size) → vs.size = ds.length → (∀ i (hi : i < ds.length), RepD w M ds[i] (vs.getD i undef)) →
    CallsIn (Wd none) n P f vs w fun e w' => ∃ c, e = .returned c ∧ Below w.heap.size w w' ∧ ∀ m, RepV w' M m (mkRes (rs.map .d)) c

def s0 (n : Nat) (ds : List D) : Sa := { rd := none, n := n, ts := argTs 0 (ds.map .d), sv := [], bx := [], lp := [], ow := [] }
/-- Behind the body of such a function. -/
def Out (P : Program) (rs : List ResultVar) (out : List D) (e : Ex) (s : Sa) : Prop :=
  (match e with | .exit _ => False | _ => True) ∧ resK P s rs fun vs => toDs V.toD vs = some out

theorem mkRes_toD {M : Cells} {vs : List V} {ds : List D} {c : Value} (h : RepV w M m (mkRes vs) c) (hd : toDs V.toD vs = some ds) : ∀ m', RepV w M m' (mkRes (ds.map .d)) c := by
  obtain ⟨h1, h2⟩ := toDs_spec hd
  intro m'
  by_cases hl : vs.length = 1
  · obtain ⟨v, rfl⟩ := List.length_eq_one_iff.1 hl
    obtain ⟨x, rfl⟩ := List.length_eq_one_iff.1 (h1.trans hl)
    exact .d (RepV.toD h (h2 0 (by simp) (by simp)))
  · have e1 : mkRes vs = .tup vs := by
      unfold mkRes; split
      · simp at hl
      · rfl
    have e2 : mkRes (ds.map .d) = .tup (ds.map .d) := by
      unfold mkRes; split
      · rename_i v hv; have := congrArg List.length hv; simp at this; omega
      · rfl
    rw [e1] at h
    rw [e2]
    obtain ⟨cs, rfl, hs, hr⟩ := h.tup_inv
    refine .tup (by simp; omega) (fun i hi => ?_)
    simp only [List.length_map] at hi
    simp only [List.getElem_map]
    exact .d ((hr i (by omega)).toD (h2 i (by omega) hi))

theorem rel_start {M : Cells} {ds : List D} {vs : Array Value} (nt : Nat) (hlt : ∀ b o, M b o → b < w.heap.size) (hs : vs.size = ds.length) (hr : ∀ i (hi : i < ds.length), RepD w M ds[i] (vs.getD i undef)) (hle : ds.length ≤ nt) :
    Rel M m (s0 nt ds) [{ tmps := vs ++ Array.replicate (nt - vs.size) undef, defers := [] }] w := by
  have htot : ∀ b o, Tot M ([] : List (Name × V)) [] m b o → M b o := fun b o h => by
    rcases h with h | ⟨nm, c, hn, _⟩ | ⟨i, hi, _⟩
    · exact h
    · simp [lookN] at hn
    · simp at hi
  refine ⟨rfl, ?_, ?_, ?_, ?_, ?_, ?_, ?_, ?_, ?_, hlt, by simp [marks], ?_⟩
  · intro i hi hi'
    have : i = 0 := by simp at hi'; exact hi'
    subst this
    refine ⟨by simp [s0, hs]; omega, fun t => ?_, fun d hd => by simp at hd⟩
    simp only [s0, List.getElem_cons_zero]
    rw [look_argTs]
    split
    · rename_i hx
      simp only [List.length_map] at hx
      have := hr t (by omega)
      simp only [Nat.sub_zero, List.getElem_map]
      refine .d (RepD.mono (fun b o c hc hm => ⟨hc, fun ht => hm (htot b o ht)⟩) ?_)
      rw [Array.getD_eq_getD_getElem?] at this ⊢
      rw [Array.getElem?_append_left (by rw [hs]; omega)]; exact this
    · exact .dead
  all_goals first | (intro a b h; simp [s0, lookN] at h) | (intro a h; simp [s0] at h) | (intro a b c d h; simp [s0, lookN] at h)

/-- **A function on data, by its body.** -/
theorem PureOK.of_body {f : FuncId} {fn : Func} {c : Code} {ds rs : List D} (q : Name) (hf : P.funcs[f]? = some fn) (hb : fn.body = some c) (hle : ds.length ≤ fn.ntmps)
    (h : (∀ i (hi : i < ds.length), ds[i].wf) → ev P (sems P) q c (s0 fn.ntmps ds) (Out P fn.results.toList rs)) : PureOK P f ds rs := by
  intro M w n vs hlt hs hr
  refine callsIn_of_wp_marks hf hb trivial ?_ rfl
  have h0 := rel_start (m := ⟨fun _ => 0, fun _ => (0, 0, 0), fun _ => 0⟩) fn.ntmps hlt hs hr hle
  have h1 := ev_sound (h (fun i hi => (hr i hi).wf)) M _ _ _ w n h0
  refine wpIn_mono h1 ?_
  rintro e a' w' ⟨ex, m', s', he, ⟨hex, hres⟩, hR', hst, _, hmk⟩
  have hB : ∀ d ∈ a'.defers, ∃ r, d = { target := .collected r, args := #[] } ∧ w.heap.size ≤ r := fun d hd => by
    rcases hmk d hd with h | h
    · simp at h
    · exact h
  have hfin : LeavesInM (Wd none) n P fn a'.tmps (fun e w' => ∃ c, e = .returned c ∧ Below w.heap.size w w' ∧ ∀ m, RepV w' M m (mkRes (rs.map .d)) c) a'.defers .returning w' := by
    refine leaves w.heap.size hres a'.defers a' w' rfl hR' hB (fun vs c w2 hk hR2 hv hb => ?_)
    have hst2 := hst.after hb
    refine ⟨c, rfl, ⟨hst2.keeps.os, hst2.keeps.tape, hst2.keeps.output, hst2.keeps.size, fun b hb' => hst2.keeps.blk b hb' (fun o ho => ?_) (fun hl => ?_)⟩, mkRes_toD (hv.mono (fun b o x hx hm => ⟨hx, fun ht => hm (.inl ht)⟩) (fun _ _ => rfl) (fun _ _ _ _ h => h) (fun _ _ => rfl)) hk⟩
    · rcases ho with ⟨nm, c, hn, _⟩ | ⟨i, hi, _⟩
      · simp [s0, lookN] at hn
      · simp [s0] at hi
    · obtain ⟨l, q, hl, _⟩ := hl
      simp [s0, lookN] at hl
  cases e with
  | normal => cases he; exact hfin
  | ret => cases he; exact hfin
  | exit i => cases he; exact hex.elim
  | goto l => cases he
  | panic c => cases he
  | outgrown => cases he

/-- A call of such a function. -/
theorem TCall_pure {f : FuncId} {args : List V} {ds rs : List D} {k : V → Sa → Prop} (h : PureOK P f ds rs) (hd : toDs V.toD args = some ds) (hk : k (mkRes (rs.map .d)) s) : TCall P p f args s k := by
  intro Mo m as w n vs r hR hargs
  obtain ⟨h1, h2⟩ := toDs_spec hd
  have hlt : ∀ b o, Tot Mo s.bx s.ow m b o → b < w.heap.size := fun b o ht => tot_lt hR ht
  refine callsIn_round ((h _ w n vs hlt (by rw [hargs.1]; exact h1.symm) (fun i hi => (hargs.2 i (by omega)).toD (h2 i (by omega) hi))).mono ?_)
  rintro e w' ⟨c, rfl, hb, hv⟩
  exact ⟨c, _, m, s, rfl, hk, hR.below hb, hv m, Step.of_below hb, rfl⟩

/-! ### Forgetting -/
/-- s' says less than s. -/
def Wk (s s' : Sa) : Prop := ∀ Mo m as w, Rel Mo m s as w → ∃ m', Rel Mo m' s' as w ∧ Step m s w m' s' w ∧ rdOf m' s' = rdOf m s
theorem Wk.refl : Wk s s := fun _ m _ _ hR => ⟨m, hR, Step.refl _ _ _, rfl⟩
theorem TC.weaken {c : Code} {s' : Sa} {Q : Ex → Sa → Prop} (hw : Wk s s') (h : TC P p c s' Q) : TC P p c s Q := fun Mo m a sv w n hR => by
  obtain ⟨m', hR', hst, hrd⟩ := hw Mo m _ w hR
  have := h Mo m' a sv w n hR'
  rw [hrd] at this
  exact wpIn_mono this (fun e a2 w2 hp => hp.step hst hrd .refl)
/-- Some slots, some variables, some names are forgotten. -/
theorem Wk.of {s' : Sa} (hrd : s'.rd = s.rd) (hn : s'.n = s.n) (hlp : s'.lp = s.lp) (hts : ∀ t, lkT t s'.ts = lkT t s.ts ∨ lkT t s'.ts = .dead)
    (hsv : s'.sv = s.sv) (hbx : ∀ nm c, lookN nm s'.bx = some c → lookN nm s.bx = some c) (how : ∀ i ∈ s'.ow, i ∈ s.ow) : Wk s s' := by
  intro Mo m as w hR
  have hmut : ∀ b o, Mut s'.bx s'.ow m b o → Mut s.bx s.ow m b o := by
    rintro b o (⟨nm, c, h1, h2⟩ | ⟨i, h1, h2⟩)
    · exact .inl ⟨nm, c, hbx nm c h1, h2⟩
    · exact .inr ⟨i, how i h1, h2⟩
  have hst : Stab w (Tot Mo s.bx s.ow m) w (Tot Mo s'.bx s'.ow m) := fun b o c hc hm => ⟨hc, fun ht => hm (ht.imp id (hmut b o))⟩
  refine ⟨m, ⟨by rw [hsv]; exact hR.len, ?_, ?_, ?_, ?_, ?_, ?_, ?_, ?_, ?_, hR.mo, hR.mks, ?_⟩, ⟨.of_below (Below.refl _ _), fun b o _ h => hmut b o h, fun b _ h => by rw [hlp] at h; exact h, hrd, by rw [hsv], fun _ _ => rfl⟩, by simp only [rdOf, hrd]⟩
  · intro i hi hi'
    cases i with
    | zero =>
      have h0 := hR.fr 0 (by simp) hi'
      refine ⟨by simp only [List.getElem_cons_zero, hn]; exact h0.size, fun t => ?_, h0.def_⟩
      simp only [List.getElem_cons_zero]
      rcases hts t with h | h
      · rw [h]; exact hst.mono_rep (h0.ts t)
      · rw [h]; exact .dead
    | succ i =>
      have h0 := hR.fr (i + 1) (by simpa [hsv] using hi) hi'
      have e : (({ rd := s'.rd, n := s'.n, ts := s'.ts } : Fr) :: s'.sv)[i + 1] = (({ rd := s.rd, n := s.n, ts := s.ts } : Fr) :: s.sv)[i + 1]'(by simpa [hsv] using hi) := by simp [hsv]
      rw [e]; exact h0.stab hst
  · intro nm c h
    obtain ⟨cs, T, hb⟩ := hR.box nm c (hbx nm c h)
    exact ⟨cs, T, hb.heap, hb.size, hb.leafs, fun i hi => hst.mono_rep (hb.rep i hi)⟩
  · exact fun a b c d h1 h2 e => hR.inj a b c d (hbx _ _ h1) (hbx _ _ h2) e
  · exact fun i hi hn => hR.oww i (how i hi) hn
  · exact fun i hi j hj h1 h2 e => hR.owx i (how i hi) j (how j hj) h1 h2 e
  · exact fun i hi hn nm c h => hR.owb i (how i hi) hn nm c (hbx nm c h)
  · intro l q hl
    rw [hlp] at hl; exact hR.lps l q hl
  · intro l q hl
    rw [hlp] at hl; exact hR.dep l q hl
  · intro l q l' q' h1 h2 e
    rw [hlp] at h1 h2; exact hR.lpi l q l' q' h1 h2 e
  · exact fun i hi hn => hR.owm i (how i hi) hn

/-! ### Loops -/
theorem wpIn_loop_ix {F : Fence} {Q : Exit → Act → World → Prop} {c : Code} {ι : Type} (I : ι → Act → World → Prop) (μ : ι → Nat)
    (round : ∀ i a w, I i a w → c.wpIn F n P (Exit.then (fun a' w' => ∃ j, I j a' w' ∧ μ j < μ i) Q) a w) : ∀ i a w, I i a w → (Code.loop c).wpIn F n P Q a w := by
  intro i0 a0 w0 h0 b k cs hro hb hr
  have key : ∀ q i a w, μ i = q → I i a w →
      ∃ e a' w', Q e a' w' ∧ ArrivesIn (Machine.fenced P F) P (lone (b.atR a (.code c :: .inLoop c :: k)) cs w) b k cs e a' w' := by
    intro q
    induction q using Nat.strongRecOn with
    | _ q ih =>
      intro i a w hq hI
      obtain ⟨e, a1, w1, h1, harr⟩ := round i a w hI b (.inLoop c :: k) cs hro hb hr
      have pass : ∀ e, e ≠ .normal → Exit.then (fun a' w' => ∃ j, I j a' w' ∧ μ j < μ i) Q e a1 w1 → ArrivesIn (Machine.fenced P F) P (lone (b.atR a (.code c :: .inLoop c :: k)) cs w) b (.inLoop c :: k) cs e a1 w1 →
          ∃ e a' w', Q e a' w' ∧ ArrivesIn (Machine.fenced P F) P (lone (b.atR a (.code c :: .inLoop c :: k)) cs w) b k cs e a' w' := fun e hne hx hy =>
        ⟨e, a1, w1, by cases e <;> first | exact absurd rfl hne | exact hx, .pass (x := .inLoop c) rfl (fun _ _ => .inl hne) hy⟩
      cases e with
      | normal =>
        obtain ⟨j, hj, hlt⟩ := h1
        obtain ⟨e2, a2, w2, h2, harr2⟩ := ih (μ j) (hq ▸ hlt) j a1 w1 rfl hj
        exact ⟨e2, a2, w2, h2, .of_steps (StepsIn.trans harr (.one (fenced_calm hb hr rfl) stepR_inLoop)) harr2⟩
      | _ => exact pass _ (by simp) h1 harr
  obtain ⟨e, a', w', hq, harr⟩ := key _ i0 a0 w0 rfl h0
  exact ⟨e, a', w', hq, .of_steps (.one (fenced_calm hb hr rfl) stepR_loop) harr⟩

/-- **A loop: a family of states, a measure.** -/
theorem TC_loop {ι : Type} (S : ι → Sa) (μ : ι → Nat) {b : Code} {Q : Ex → Sa → Prop}
    (h : ∀ i, ev P (sems P) p b (S i) (fun e s' => match e with | .norm => ∃ j, Wk s' (S j) ∧ μ j < μ i | e => Q e s')) (i : ι) : TC P p (.loop b) (S i) Q := by
  intro Mo m a sv w n hR
  refine wpIn_loop_ix (fun j a' w' => ∃ m', Rel Mo m' (S j) (a' :: sv) w' ∧ Step m (S i) w m' (S j) w' ∧ rdOf m' (S j) = rdOf m (S i) ∧ NewMarks a.defers w a'.defers) μ ?_ i a w ⟨m, hR, Step.refl _ _ _, rfl, .refl⟩
  rintro j a1 w1 ⟨m1, hR1, hst1, hrd1, hmk1⟩
  have h1 := ev_sound (h j) Mo m1 a1 sv w1 n hR1
  rw [hrd1] at h1
  refine wpIn_mono h1 ?_
  rintro e a2 w2 ⟨ex, m2, s2, he, hq, hR2, hst2, hrd2, hmk2⟩
  have hmk : NewMarks a.defers w a2.defers := fun d hd => by
    rcases hmk2 d hd with h | ⟨r, e, hr⟩
    · exact hmk1 d h
    · exact .inr ⟨r, e, Nat.le_trans hst1.keeps.size hr⟩
  cases e with
  | normal =>
    cases he
    obtain ⟨j', hw, hlt⟩ := hq
    obtain ⟨m3, hR3, hst3, hrd3⟩ := hw Mo m2 _ w2 hR2
    exact ⟨j', ⟨m3, hR3, (hst1.trans hst2).trans hst3, (hrd3.trans hrd2).trans hrd1, hmk⟩, hlt⟩
  | exit i => cases he; exact ⟨_, m2, s2, rfl, hq, hR2, hst1.trans hst2, hrd2.trans hrd1, hmk⟩
  | ret => cases he; exact ⟨_, m2, s2, rfl, hq, hR2, hst1.trans hst2, hrd2.trans hrd1, hmk⟩
  | goto l => cases he
  | panic c => cases he
  | outgrown => cases he
end Go.Ab
namespace Go.Ab
open Go Go.RowKit
variable {P : Program} {s : Sa} {p : Name}
theorem lkT_sub {ts ts' : List (Nat × V)} (h : ∀ x ∈ ts', lkT x.1 ts = x.2) (t : Nat) : lkT t ts' = lkT t ts ∨ lkT t ts' = .dead := by
  induction ts' with
  | nil => right; rfl
  | cons y l ih =>
    obtain ⟨t', v⟩ := y
    simp only [lkT]
    split
    · rename_i e; subst e; left; exact (h (t', v) (by simp)).symm
    · exact ih (fun x hx => h x (by simp [hx]))
theorem lookN_sub {bx bx' : List (Name × V)} (h : ∀ x ∈ bx', lookN x.1 bx = some x.2) (nm : Name) (c : V) (hl : lookN nm bx' = some c) : lookN nm bx = some c := by
  have := h _ (lookN_mem hl); exact this
theorem Wk.lists {s' : Sa} (hrd : s'.rd = s.rd) (hn : s'.n = s.n) (hlp : s'.lp = s.lp) (hts : ∀ x ∈ s'.ts, lkT x.1 s.ts = x.2)
    (hsv : s'.sv = s.sv) (hbx : ∀ x ∈ s'.bx, lookN x.1 s.bx = some x.2) (how : ∀ i ∈ s'.ow, i ∈ s.ow) : Wk s s' :=
  Wk.of hrd hn hlp (lkT_sub hts) hsv (lookN_sub hbx) how
/-- **A loop, entered from a state that says at least what the family's does.** -/
theorem TC_loop' {ι : Type} (S : ι → Sa) (μ : ι → Nat) (i : ι) {b : Code} {Q : Ex → Sa → Prop} (hw : Wk s (S i))
    (h : ∀ i, ev P (sems P) p b (S i) (fun e s' => match e with | .norm => ∃ j, Wk s' (S j) ∧ μ j < μ i | e => Q e s')) : TC P p (.loop b) s Q :=
  TC.weaken hw (TC_loop S μ h i)
end Go.Ab
