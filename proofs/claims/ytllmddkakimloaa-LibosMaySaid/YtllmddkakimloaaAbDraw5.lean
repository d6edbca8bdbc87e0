import Derived.Test.YtllmddkakimloaaAbDraw4
namespace Go.Ab
set_option linter.all false
open Go Go.RowKit
variable {P : Program} {a : Act} {w : World} {n : Nat} {Mo : Cells} {m : Mp} {s : Sa} {p : Name} {k : Sa → Prop} {Q : Exit → Act → World → Prop} {sv : List Act} {ops : Array Oper}

def Listed (ops : Array Oper) (listed : Array Bool) (D : Nat → Prop) : Prop := listed.size = ops.size ∧ ∀ j < ops.size, (listed.getD j true = true ↔ D j)
theorem Listed.set {listed : Array Bool} {D : Nat → Prop} (h : Listed ops listed D) (i : Nat) : Listed ops (listed.setIfInBounds i true) (fun j => D j ∨ j = i) := by
  refine ⟨by simp [h.1], fun j hj => ?_⟩
  by_cases hij : i = j
  · subst hij
    have : i < listed.size := by rw [h.1]; exact hj
    simp [this]
  · rw [getD_set_ne true hij, h.2 j hj]
    constructor
    · exact fun x => .inl x
    · rintro (x | x)
      · exact x
      · exact absurd x.symm hij
theorem Listed.false' {listed : Array Bool} {D : Nat → Prop} (h : Listed ops listed D) {j : Nat} (hj : j < ops.size) : listed.getD j false = true ↔ D j := by
  rw [← h.2 j hj]
  have : j < listed.size := by rw [h.1]; exact hj
  simp [this]
theorem Listed.congr {listed : Array Bool} {D D' : Nat → Prop} (h : Listed ops listed D) (e : ∀ j, D j ↔ D' j) : Listed ops listed D' := ⟨h.1, fun j hj => (h.2 j hj).trans (e j)⟩
theorem ready_inv {listed : Array Bool} {D : Nat → Prop} (h : Listed ops listed D) {i : Nat} (hi : i ∈ Region.ready .any ops listed) :
    i < ops.size ∧ ¬ D i ∧ ∃ o, ops[i]? = some o ∧ ∀ j ∈ aft o, listed.getD j false = true := by
  obtain ⟨h1, o, ho, h2⟩ := mem_ready.1 hi
  have hlt : i < ops.size := (Array.getElem?_eq_some_iff.1 ho).1
  refine ⟨hlt, fun hd => ?_, o, ho, fun j hj => ?_⟩
  · rw [(h.2 i hlt).2 hd] at h1; cases h1
  · simp only [aft, List.mem_map, List.mem_filter] at hj
    obtain ⟨e, ⟨he, hb⟩, rfl⟩ := hj
    exact h2 e (by simpa using he) hb
theorem ready_intro {listed : Array Bool} {D : Nat → Prop} (h : Listed ops listed D) {i : Nat} {o : Oper} (ho : ops[i]? = some o) (hd : ¬ D i) (ha : ∀ j ∈ aft o, j < ops.size ∧ D j) :
    i ∈ Region.ready .any ops listed := by
  have hlt : i < ops.size := (Array.getElem?_eq_some_iff.1 ho).1
  refine mem_ready.2 ⟨?_, o, ho, fun e he hb => ?_⟩
  · cases hx : listed.getD i true
    · rfl
    · exact absurd ((h.2 i hlt).1 hx) hd
  · obtain ⟨h1, h2⟩ := ha e.on (by simp only [aft, List.mem_map, List.mem_filter]; exact ⟨e, ⟨by simpa using he, hb⟩, rfl⟩)
    exact (h.false' h1).2 h2

/-- Behind a part of the region. -/
def PartNext (P : Program) (ops : Array Oper) (Q : Exit → Act → World → Prop) (n : Nat) (Mo : Cells) (m : Mp) (s : Sa) (ds : List Deferred) (sv : List Act) (w : World) (fuel : Nat) (D : Nat → Prop) (k : Sa → Prop) : Prop :=
  ∀ m' s' a' w' listed, k s' → Rel Mo m' s' (a' :: sv) w' → Step m s w m' s' w' → rdOf m' s' = rdOf m s → a'.defers = ds → Listed ops listed D → wpAnyIn (Wd (rdOf m s)) n P .any ops Q fuel listed a' w'

theorem like_sets {L ivs : List (Nat × V)} (ha : Apart ops ivs) (h : ∀ x, x ∈ L ↔ x ∈ ivs) : Like (putAll ops s L) (putAll ops s ivs) := by
  obtain ⟨a1, a2, a3, a4, a5, a6⟩ := putAll_fields (ops := ops) (s := s) L
  obtain ⟨b1, b2, b3, b4, b5, b6⟩ := putAll_fields (ops := ops) (s := s) ivs
  refine ⟨a1.trans b1.symm, a2.trans b2.symm, a3.trans b3.symm, a4.trans b4.symm, a5.trans b5.symm, a6.trans b6.symm, fun t => ?_⟩
  have hL : Apart ops L := fun x hx y hy => ha x ((h x).1 hx) y ((h y).1 hy)
  by_cases hex : ∃ x ∈ ivs, dstOf ops x.1 = some t
  · obtain ⟨x, hx, hd⟩ := hex
    rw [lk_mem ha hx hd, lk_mem hL ((h x).2 hx) hd]
  · rw [lk_not (fun x hx hd => hex ⟨x, (h x).1 hx, hd⟩), lk_not (fun x hx hd => hex ⟨x, hx, hd⟩)]

theorem first_in {α : Type} (l : List α) (q : α → Prop) (h : ∃ x ∈ l, q x) : ∃ pre x post, l = pre ++ x :: post ∧ q x ∧ ∀ y ∈ pre, ¬ q y := by
  induction l with
  | nil => obtain ⟨x, hx, _⟩ := h; cases hx
  | cons a l ih =>
    by_cases ha : q a
    · exact ⟨[], a, l, rfl, ha, by simp⟩
    · obtain ⟨x, hx, hq⟩ := h
      rcases List.mem_cons.1 hx with e | e
      · subst e; exact absurd hq ha
      · obtain ⟨pre, x, post, e1, e2, e3⟩ := ih ⟨x, e, hq⟩
        refine ⟨a :: pre, x, post, by rw [e1]; rfl, e2, fun y hy => ?_⟩
        rcases List.mem_cons.1 hy with h | h
        · subst h; exact ha
        · exact e3 y h

theorem seg_sound {l done later : List Nat} {ivs : List (Nat × V)} (hl : ivs.map Prod.fst = l) (hcalm : ∀ i ∈ l, calmOK ops l i = true) (hord : orderOK ops done l = true)
    (hlater : ∀ i ∈ later, okAft ops i (fun al => al.any later.contains || l.all (need ops l.reverse al).contains) = true) (hfresh : ∀ j ∈ later, j ∉ done ∧ j ∉ l) (hcov : ∀ j < ops.size, j ∈ done ∨ j ∈ l ∨ j ∈ later)
    (hdone : ∀ j ∈ done, j < ops.size)
    (hfact : ∀ pre i v post, ivs = pre ++ (i, v) :: post → OpFact P p ops i v (putAll ops s pre)) {fuel : Nat} {ds : List Deferred}
    (hN : PartNext P ops Q n Mo m s ds sv w fuel (fun j => j ∈ done ∨ j ∈ l) (fun s' => Like s' (putAll ops s ivs))) :
    ∀ (N : Nat) (L : List (Nat × V)) (todo : List Nat) (listed : Array Bool) (m' : Mp) (s' : Sa) (a' : Act) (w' : World), todo.length = N → todo.Nodup → (∀ j ∈ todo, j ∈ l) → (∀ x ∈ L, x ∈ ivs ∧ x.1 ∉ todo) → (∀ x ∈ ivs, x.1 ∉ todo → x ∈ L) →
      Like s' (putAll ops s L) → Rel Mo m' s' (a' :: sv) w' → Step m s w m' s' w' → rdOf m' s' = rdOf m s → a'.defers = ds → (∀ j ∈ l, j ∉ todo → ∀ q ∈ aftOf ops j, q ∈ done ∨ (q ∈ l ∧ q ∉ todo)) → Listed ops listed (fun j => j ∈ done ∨ (j ∈ l ∧ j ∉ todo)) →
      wpAnyIn (Wd (rdOf m s)) n P .any ops Q (fuel + N) listed a' w' := by
  obtain ⟨hnd, hin⟩ := orderOK_nodup hord
  have hndf : (ivs.map Prod.fst).Nodup := by rw [hl]; exact hnd
  have fst_in : ∀ x ∈ ivs, x.1 ∈ l := fun x hx => by rw [← hl]; exact List.mem_map.2 ⟨x, hx, rfl⟩
  have same : ∀ x ∈ ivs, ∀ y ∈ ivs, x.1 = y.1 → x = y := by
    intro x hx y hy e
    obtain ⟨i, hi, rfl⟩ := List.getElem_of_mem hx
    obtain ⟨j, hj, rfl⟩ := List.getElem_of_mem hy
    have := (List.getElem_inj (xs := ivs.map Prod.fst) (h₀ := by simpa using hi) (h₁ := by simpa using hj) hndf).1 (by simpa using e)
    subst this; rfl
  have apart : Apart ops ivs := by
    intro x hx y hy t h1 h2
    refine same x hx y hy ?_
    have hc := hcalm x.1 (fst_in x hx)
    unfold calmOK at hc
    split at hc
    · rename_i o ho
      simp only [Bool.and_eq_true] at hc
      have := List.all_eq_true.1 hc.2.2 y.1 (fst_in y hy)
      simp only [Bool.or_eq_true, beq_iff_eq, Bool.and_eq_true, bne_iff_ne] at this
      rcases this with h | ⟨h, _⟩
      · exact h.symm
      · exact absurd (by rw [h2, ← dstOf_eq ho, h1]) h
    · cases hc
  intro N
  induction N with
  | zero =>
    intro L todo listed m' s' a' w' hlen _ _ hL hL' hlike hR hst hrd hds _ hlisted
    have : todo = [] := List.eq_nil_of_length_eq_zero hlen
    subst this
    refine hN m' s' a' w' listed ?_ hR hst hrd hds (hlisted.congr fun j => by simp)
    exact hlike.trans (like_sets apart fun x => ⟨fun hx => (hL x hx).1, fun hx => hL' x hx (by simp)⟩)
  | succ N ih =>
    intro L todo listed m' s' a' w' hlen htn htl hL hL' hlike hR hst hrd hds hclo hlisted
    have split_of : ∀ i ∈ todo, ∃ pre v post o, ivs = pre ++ (i, v) :: post ∧ ops[i]? = some o ∧ (∀ j ∈ aft o, j ∈ done ∨ j ∈ pre.map Prod.fst) ∧ i ∉ done ∧ i ∉ pre.map Prod.fst := by
      intro i hi
      have hil := htl i hi
      rw [← hl] at hil
      obtain ⟨x, hx, rfl⟩ := List.mem_map.1 hil
      obtain ⟨pre, post, e⟩ := List.append_of_mem hx
      have hl2 : l = pre.map Prod.fst ++ x.1 :: post.map Prod.fst := by rw [← hl, e]; simp
      rw [hl2] at hord
      obtain ⟨⟨o, ho, h1⟩, h2, h3⟩ := orderOK_split _ hord
      exact ⟨pre, x.2, post, o, e, ho, h1, h2, h3⟩
    refine ⟨fun hr => ?_, fun i hi => ?_⟩
    · exfalso
      have htne : ∃ i, i ∈ todo := by
        cases todo with
        | nil => simp at hlen
        | cons i t => exact ⟨i, List.mem_cons_self⟩
      obtain ⟨i0, hi0⟩ := htne
      obtain ⟨x0, hx0, e0⟩ := List.mem_map.1 (by rw [hl]; exact htl i0 hi0 : i0 ∈ ivs.map Prod.fst)
      obtain ⟨pre, x, post, e1, e2, e3⟩ := first_in ivs (fun x => x.1 ∈ todo) ⟨x0, hx0, by rw [e0]; exact hi0⟩
      have hl2 : l = pre.map Prod.fst ++ x.1 :: post.map Prod.fst := by rw [← hl, e1]; simp
      have hord2 := hord
      rw [hl2] at hord2
      obtain ⟨⟨o, ho, h1⟩, h2, h3⟩ := orderOK_split _ hord2
      have : x.1 ∈ Region.ready .any ops listed := ready_intro hlisted ho (by rintro (h | h); exact h2 h; exact h.2 e2) (fun j hj => by
        rcases h1 j hj with h | h
        · exact ⟨hdone j h, .inl h⟩
        · obtain ⟨y, hy, rfl⟩ := List.mem_map.1 h
          have hyi : y ∈ ivs := by rw [e1]; exact List.mem_append_left _ hy
          exact ⟨(hin _ (fst_in y hyi)).2, .inr ⟨fst_in y hyi, e3 y hy⟩⟩)
      rw [hr] at this; cases this
    · obtain ⟨hlt, hnD, o, ho, haft⟩ := ready_inv hlisted hi
      have hnd' : i ∉ done := fun h => hnD (.inl h)
      have hit : i ∈ todo := by
        rcases hcov i hlt with h | h | h
        · exact absurd h hnd'
        · exact Classical.byContradiction fun hc => hnD (.inr ⟨h, hc⟩)
        · exfalso
          obtain ⟨o', ho', hb⟩ := okAft_inv (hlater i h)
          rw [ho] at ho'; cases ho'
          simp only [Bool.or_eq_true] at hb
          rcases hb with hb | hb
          · obtain ⟨j, hj, hjl⟩ := List.any_eq_true.1 hb
            have hjl' : j ∈ later := by simpa using hjl
            have h1 := haft j hj
            have hjs : j < ops.size := by
              have : j < listed.size := by
                rcases Nat.lt_or_ge j listed.size with h' | h'
                · exact h'
                · simp [Array.getElem?_eq_none h'] at h1
              rw [← hlisted.1]; exact this
            rcases (hlisted.false' hjs).1 h1 with h2 | h2
            · exact (hfresh j hjl').1 h2
            · exact (hfresh j hjl').2 h2.1
          · have htne : ∃ i, i ∈ todo := by
              cases todo with
              | nil => simp at hlen
              | cons i t => exact ⟨i, List.mem_cons_self⟩
            obtain ⟨j, hj⟩ := htne
            have hja := List.all_eq_true.1 hb j (htl j hj)
            have hlt' : ∀ q, listed.getD q false = true → q < ops.size := fun q h1 => by
              have : q < listed.size := by
                rcases Nat.lt_or_ge q listed.size with h' | h'
                · exact h'
                · simp [Array.getElem?_eq_none h'] at h1
              rw [← hlisted.1]; exact this
            have h1 := need_all (ops := ops) (q := fun q => q ∈ done ∨ (q ∈ l ∧ q ∉ todo)) (l := l.reverse) (S := aft o)
              (fun q hq => (hlisted.false' (hlt' q (haft q hq))).1 (haft q hq))
              (fun q hq hqq x hx => by
                have hql : q ∈ l := by simpa using hq
                rcases hqq with hqq | hqq
                · exact absurd hqq (hin q hql).1
                · exact hclo q hql hqq.2 x hx) j (by simpa using hja)
            rcases h1 with h2 | h2
            · exact (hin j (htl j hj)).1 h2
            · exact h2.2 hj
      obtain ⟨pre, v, post, o', e1, ho', hpre, _, hipre⟩ := split_of i hit
      rw [ho] at ho'; cases ho'
      obtain ⟨o2, ho2, hf⟩ := hfact pre i v post e1
      rw [ho] at ho2; cases ho2
      have hivs : (i, v) ∈ ivs := by rw [e1]; simp
      have hcal := hcalm i (htl i hit)
      unfold calmOK at hcal
      rw [ho] at hcal
      simp only [Bool.and_eq_true] at hcal
      have hpi : ∀ y ∈ pre, y ∈ ivs := fun y hy => by rw [e1]; exact List.mem_append_left _ hy
      have hreads : ∀ t ∈ opReads ops o, lkT t s'.ts = lkT t (putAll ops s pre).ts := by
        intro t ht
        rw [hlike.ts t]
        have hpap : Apart ops pre := fun x hx y hy => apart x (hpi x hx) y (hpi y hy)
        have hLap : Apart ops L := fun x hx y hy => apart x (hL x hx).1 y (hL y hy).1
        by_cases hex : ∃ y ∈ ivs, dstOf ops y.1 = some t ∧ y.1 ≠ i
        · obtain ⟨y, hy, hyd, hyi⟩ := hex
          have h2 := List.all_eq_true.1 hcal.2.2 y.1 (fst_in y hy)
          simp only [Bool.or_eq_true, beq_iff_eq, Bool.and_eq_true] at h2
          have hya : y.1 ∈ aft o := by
            rcases h2 with h2 | ⟨_, h2 | h2⟩
            · exact absurd h2 hyi
            · have := List.all_eq_true.1 h2 t ht
              simp [hyd] at this
            · simpa using h2
          have hyL : y ∈ L := by
            refine hL' y hy fun hyt => ?_
            rcases (hlisted.false' (hin y.1 (fst_in y hy)).2).1 (haft y.1 hya) with h | h
            · exact (hin y.1 (fst_in y hy)).1 h
            · exact h.2 hyt
          have hyp : y ∈ pre := by
            rcases hpre y.1 hya with h | h
            · exact absurd h (hin y.1 (fst_in y hy)).1
            · obtain ⟨z, hz, e⟩ := List.mem_map.1 h
              rw [← same z (hpi z hz) y hy e]; exact hz
          rw [lk_mem hLap hyL hyd, lk_mem hpap hyp hyd]
        · rw [lk_not (fun y hy hd => ?_), lk_not (fun y hy hd => ?_)]
          · by_cases hyi : y.1 = i
            · exact hipre (List.mem_map.2 ⟨y, hy, hyi⟩)
            · exact hex ⟨y, hpi y hy, hd, hyi⟩
          · by_cases hyi : y.1 = i
            · exact (hL y hy).2 (by rw [hyi]; exact hit)
            · exact hex ⟨y, (hL y hy).1, hd, hyi⟩
      obtain ⟨b1, b2, b3, b4, b5, b6⟩ := putAll_fields (ops := ops) (s := s) pre
      obtain ⟨c1, c2, c3, c4, c5, c6⟩ := putAll_fields (ops := ops) (s := s) L
      have hev := hf s' (hlike.bx.trans (c4.trans b4.symm)) (hlike.n.trans (c2.trans b2.symm)) hreads (fun s2 => ∃ s1, Like s1 s' ∧ s2 = s1.put o.dst v) (fun s1 h1 => ⟨s1, h1, rfl⟩)
      rw [← hrd]
      refine op1_sound ho hR ?_ hev
      rintro m2 s2 a2 w2 ⟨s1, hs1, rfl⟩ hR2 hst2 hrd2 hds2
      rw [hrd]
      refine ih (L ++ [(i, v)]) (todo.erase i) _ m2 _ a2 w2 (by rw [List.length_erase_of_mem hit]; omega) (htn.erase i) (fun j hj => htl j (List.mem_of_mem_erase hj)) ?_ ?_ ?_ hR2 (hst.trans hst2) (hrd2.trans hrd) (hds2.trans hds) ?_ ?_
      · intro x hx
        rcases List.mem_append.1 hx with h | h
        · exact ⟨(hL x h).1, fun hc => (hL x h).2 (List.mem_of_mem_erase hc)⟩
        · simp only [List.mem_singleton] at h; subst h
          exact ⟨hivs, fun hc => by rw [htn.mem_erase_iff] at hc; exact hc.1 rfl⟩
      · intro x hx hxt
        by_cases hxi : x.1 = i
        · exact List.mem_append_right _ (by rw [same x hx _ hivs hxi]; simp)
        · exact List.mem_append_left _ (hL' x hx fun hc => hxt ((htn.mem_erase_iff).2 ⟨hxi, hc⟩))
      · rw [putAll_append]
        show Like _ ((putAll ops s L).put (dstOf ops i) v)
        rw [dstOf_eq ho]
        exact (hs1.trans hlike).put _ _
      · intro j hj hjt q hq
        have hkeep : ∀ q, (q ∈ done ∨ (q ∈ l ∧ q ∉ todo)) → q ∈ done ∨ (q ∈ l ∧ q ∉ todo.erase i) := fun q h => h.imp id fun h => ⟨h.1, fun hc => h.2 (List.mem_of_mem_erase hc)⟩
        by_cases hji : j = i
        · subst hji
          have hq' : q ∈ aft o := by simpa [aftOf, ho] using hq
          refine hkeep q ((hlisted.false' ?_).1 (haft q hq'))
          have h1 := haft q hq'
          have : q < listed.size := by
            rcases Nat.lt_or_ge q listed.size with h' | h'
            · exact h'
            · simp [Array.getElem?_eq_none h'] at h1
          rw [← hlisted.1]; exact this
        · exact hkeep q (hclo j hj (fun hc => hjt ((htn.mem_erase_iff).2 ⟨hji, hc⟩)) q hq)
      · refine (hlisted.set i).congr fun j => ?_
        constructor
        · rintro ((h | h) | h)
          · exact .inl h
          · exact .inr ⟨h.1, fun hc => h.2 (List.mem_of_mem_erase hc)⟩
          · subst h; exact .inr ⟨htl j hit, fun hc => by rw [htn.mem_erase_iff] at hc; exact hc.1 rfl⟩
        · rintro (h | h)
          · exact .inl (.inl h)
          · by_cases hji : j = i
            · exact .inr hji
            · exact .inl (.inr ⟨h.1, fun hc => h.2 ((htn.mem_erase_iff).2 ⟨hji, hc⟩)⟩)

theorem plan_sound : ∀ (plan : List Seg) (done : List Nat) (listed : Array Bool) (m : Mp) (s : Sa) (a : Act) (w : World), planOK ops done plan = true → (∀ j ∈ done, j < ops.size) → Listed ops listed (· ∈ done) →
    Rel Mo m s (a :: sv) w → RegNext Mo m s a.defers sv w k Q → evPlan P p ops plan s k → wpAnyIn (Wd (rdOf m s)) n P .any ops Q (flat plan).length listed a w := by
  intro plan
  induction plan with
  | nil =>
    intro done listed m s a w hp hdn hlisted hR hN h
    simp only [planOK, Bool.and_eq_true] at hp
    refine ⟨?_, hN m s a w h hR (Step.refl _ _ _) rfl rfl⟩
    refine List.eq_nil_iff_forall_not_mem.2 fun i hi => ?_
    obtain ⟨h1, h2, _⟩ := ready_inv hlisted hi
    exact h2 (by simpa using List.all_eq_true.1 hp.1 i (List.mem_range.2 h1))
  | cons x rest ih =>
    intro done listed m s a w hp hdn hlisted hR hN h
    cases x with
    | calm l =>
      have hfr := planOK_fresh hp
      simp only [planOK, Bool.and_eq_true] at hp
      have hfr2 := planOK_fresh hp.2.2.2
      have hcalm : ∀ i ∈ l, calmOK ops l i = true := List.all_eq_true.1 hp.1
      have hnd := orderOK_nodup hp.2.1
      simp only [evPlan] at h
      obtain ⟨ivs, s1, h1, h2, h3, h4⟩ := evSeg_run l (fun i hi => by
        have := hcalm i hi
        unfold calmOK at this
        split at this
        · rename_i o ho; simp only [Bool.and_eq_true] at this; exact ⟨o, ho, this.1⟩
        · cases this) h
      have e : (flat (.calm l :: rest)).length = (flat rest).length + l.length := by simp only [flat, Seg.idx, List.length_append]; omega
      rw [e]
      refine seg_sound (later := flat rest) (done := done) h1 hcalm hp.2.1 (List.all_eq_true.1 hp.2.2.1) (fun j hj => ?_) (fun j hj => ?_) hdn h4 ?_ l.length [] l listed m s a w rfl hnd.1 (fun j hj => hj) (fun x hx => by cases hx)
        (fun x hx hxl => absurd (by rw [← h1]; exact List.mem_map.2 ⟨x, hx, rfl⟩) hxl) (Like.refl s) hR (Step.refl _ _ _) rfl rfl (fun j hj hjt => absurd hj hjt) (hlisted.congr fun j => ?_)
      · have := hfr2.1 j hj
        simp only [List.mem_append, List.mem_reverse, not_or] at this
        exact ⟨this.2, this.1⟩
      · rcases hfr.2.1 j hj with h | h
        · exact .inl h
        · simp only [flat, Seg.idx, List.mem_append] at h; exact .inr h
      · intro m' s' a' w' listed' hlike hR' hst hrd hds hlisted'
        obtain ⟨m2, hR2, hst2, hrd2⟩ := (hlike.trans h2.symm).wk Mo m' _ w' hR'
        have := ih (l.reverse ++ done) listed' m2 s1 a' w' hp.2.2.2 (fun j hj => ?_) (hlisted'.congr fun j => ?_) hR2 (by rw [hds]; exact hN.step (hst.trans hst2) (hrd2.trans hrd)) h3
        · rw [hrd2, hrd] at this; exact this
        · rcases List.mem_append.1 hj with h | h
          · exact (hnd.2 j (by simpa using h)).2
          · exact hdn j h
        · simp only [List.mem_append, List.mem_reverse]; exact ⟨Or.symm, Or.symm⟩
      · constructor
        · exact .inl
        · rintro (h | h)
          · exact h
          · exact absurd h.1 h.2
    | bar i =>
      have hfr := planOK_fresh hp
      simp only [planOK, Bool.and_eq_true] at hp
      have hfr2 := planOK_fresh hp.2.2
      simp only [evPlan] at h
      obtain ⟨⟨o, ho, hao⟩, hid, _⟩ := orderOK_split [] (post := []) hp.1
      rw [ho] at h
      simp only at h
      have hilt : i < ops.size := (Array.getElem?_eq_some_iff.1 ho).1
      have e : (flat (.bar i :: rest)).length = (flat rest).length + 1 := by simp [flat, Seg.idx]
      rw [e]
      refine ⟨fun hr => ?_, fun j hj => ?_⟩
      · have : i ∈ Region.ready .any ops listed := ready_intro hlisted ho hid (fun j hj => by
          rcases hao j hj with h | h
          · exact ⟨hdn j h, h⟩
          · cases h)
        rw [hr] at this; cases this
      · obtain ⟨hlt, hnD, o', ho', haft⟩ := ready_inv hlisted hj
        have hji : j = i := by
          refine Classical.byContradiction fun hne => ?_
          have hjr : j ∈ flat rest := by
            rcases hfr.2.1 j hlt with h | h
            · exact absurd h hnD
            · simp only [flat, Seg.idx, List.cons_append, List.nil_append, List.mem_cons] at h
              exact h.resolve_left hne
          obtain ⟨o2, ho2, hb⟩ := okAft_inv (List.all_eq_true.1 hp.2.1 j hjr)
          rw [ho'] at ho2; cases ho2
          obtain ⟨q, hq, hqi⟩ := List.any_eq_true.1 hb
          have hqi' : q = i ∨ q ∈ flat rest := by simpa using hqi
          have h1 := haft q hq
          have hqs : q < ops.size := by
            have : q < listed.size := by
              rcases Nat.lt_or_ge q listed.size with h' | h'
              · exact h'
              · simp [Array.getElem?_eq_none h'] at h1
            rw [← hlisted.1]; exact this
          have h2 := (hlisted.false' hqs).1 h1
          rcases hqi' with h3 | h3
          · subst h3; exact hid h2
          · exact hfr2.1 q h3 (List.mem_cons_of_mem _ h2)
        subst hji
        refine op1_sound ho hR ?_ h
        intro m' s' a' w' hk hR' hst hrd hds
        have := ih (j :: done) (listed.setIfInBounds j true) m' s' a' w' hp.2.2 (fun q hq => ?_) ((hlisted.set j).congr fun q => ?_) hR' (by rw [hds]; exact hN.step hst hrd) hk
        · rw [hrd] at this; exact this
        · rcases List.mem_cons.1 hq with h | h
          · subst h; exact hilt
          · exact hdn q h
        · simp only [List.mem_cons]; exact ⟨Or.symm, Or.symm⟩
end Go.Ab
