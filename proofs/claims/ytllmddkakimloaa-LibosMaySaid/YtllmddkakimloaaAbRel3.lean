import Derived.Test.YtllmddkakimloaaAbRel2
/-! Stripping, claiming, new variables, stores. -/
namespace Go.Ab
set_option linter.all false
open Go Go.RowKit

theorem V.stripL_length (i : Name) (vs : List V) : (V.stripL i vs).length = vs.length := by
  induction vs with
  | nil => simp [V.stripL]
  | cons v vs ih => simp [V.stripL, ih]
theorem V.stripL_get (i : Name) (vs : List V) (k : Nat) (h : k < (V.stripL i vs).length) : (V.stripL i vs)[k] = (vs[k]'(by rwa [V.stripL_length] at h)).strip i := by
  induction vs generalizing k with
  | nil => simp [V.stripL] at h
  | cons v vs ih => cases k with
    | zero => simp [V.stripL]
    | succ k => simp only [V.stripL, List.getElem_cons_succ]; exact ih k (by simpa [V.stripL] using h)
theorem V.stripL_map (i : Name) (vs : List V) : V.stripL i vs = vs.map (V.strip i) := by
  induction vs with
  | nil => simp [V.stripL]
  | cons v vs ih => simp [V.stripL, ih]
theorem RepV.strip {w M m x v} (i : Name) (h : RepV w M m x v) : RepV w M m (x.strip i) v := by
  induction h with
  | d h => exact .d h
  | nil => exact .nil
  | own h hsz hs =>
    simp only [V.strip]; split
    · exact .d h
    · exact .own h hsz hs
  | ptr => exact .ptr
  | ref b off cv h1 h2 => exact .ref b off cv h1 h2
  | fn hs _ ih => exact .fn (by rw [hs, V.stripL_length]) (fun k hk => by rw [V.stripL_get]; exact ih k (by rwa [V.stripL_length] at hk))
  | yld => exact .yld
  | agg hs hl _ ih => exact .agg (by rw [hs, V.stripL_length]) (fun k hk => hl k (by rwa [V.stripL_length] at hk)) (fun k hk => by rw [V.stripL_get]; exact ih k (by rwa [V.stripL_length] at hk))
  | tup hs _ ih => exact .tup (by rw [hs, V.stripL_length]) (fun k hk => by rw [V.stripL_get]; exact ih k (by rwa [V.stripL_length] at hk))
  | dead => exact .dead
mutual
theorem V.bxs_strip (i : Name) : ∀ v : V, (v.strip i).bxs = v.bxs
  | .own j sz xs => by simp only [V.strip]; split <;> simp [V.bxs]
  | .fn f c => by simp only [V.strip, V.bxs, V.bxsL_strip i c]
  | .agg c => by simp only [V.strip, V.bxs, V.bxsL_strip i c]
  | .tup c => by simp only [V.strip, V.bxs, V.bxsL_strip i c]
  | .d _ | .nil | .ptr .. | .ref _ | .yld _ | .dead => by simp [V.strip, V.bxs]
theorem V.bxsL_strip (i : Name) : ∀ vs : List V, V.bxsL (V.stripL i vs) = V.bxsL vs
  | [] => by simp [V.stripL]
  | v :: vs => by simp [V.stripL, V.bxsL, V.bxs_strip i v, V.bxsL_strip i vs]
end
mutual
theorem V.lps_strip (i : Name) : ∀ v : V, (v.strip i).lps = v.lps
  | .own j sz xs => by simp only [V.strip]; split <;> simp [V.lps]
  | .fn f c => by simp only [V.strip, V.lps, V.lpsL_strip i c]
  | .agg c => by simp only [V.strip, V.lps, V.lpsL_strip i c]
  | .tup c => by simp only [V.strip, V.lps, V.lpsL_strip i c]
  | .d _ | .nil | .ptr .. | .ref _ | .yld _ | .dead => by simp [V.strip, V.lps]
theorem V.lpsL_strip (i : Name) : ∀ vs : List V, V.lpsL (V.stripL i vs) = V.lpsL vs
  | [] => by simp [V.stripL]
  | v :: vs => by simp [V.stripL, V.lpsL, V.lps_strip i v, V.lpsL_strip i vs]
end
mutual
theorem V.ows_strip (i : Name) : ∀ v : V, ∀ j ∈ (v.strip i).ows, j ∈ v.ows ∧ j ≠ i
  | .own j sz xs => by
    simp only [V.strip]; split
    · simp [V.ows]
    · rename_i h; simp [V.ows]; exact h
  | .fn f c => by simp only [V.strip, V.ows]; exact V.owsL_strip i c
  | .agg c => by simp only [V.strip, V.ows]; exact V.owsL_strip i c
  | .tup c => by simp only [V.strip, V.ows]; exact V.owsL_strip i c
  | .d _ | .nil | .ptr .. | .ref _ | .yld _ | .dead => by simp [V.strip, V.ows]
theorem V.owsL_strip (i : Name) : ∀ vs : List V, ∀ j ∈ V.owsL (V.stripL i vs), j ∈ V.owsL vs ∧ j ≠ i
  | [] => by simp [V.stripL, V.owsL]
  | v :: vs => by
    intro j hj
    simp only [V.stripL, V.owsL, List.mem_append] at hj ⊢
    rcases hj with hj | hj
    · exact ⟨.inl (V.ows_strip i v j hj).1, (V.ows_strip i v j hj).2⟩
    · exact ⟨.inr (V.owsL_strip i vs j hj).1, (V.owsL_strip i vs j hj).2⟩
end
mutual
theorem V.refs_bxs (n : Name) : ∀ v : V, v.refs n = false → n ∉ v.bxs
  | .ptr m o => by simp [V.refs, V.bxs]; exact fun h e => h e.symm
  | .fn f c => by simp only [V.refs, V.bxs]; exact V.refsL_bxs n c
  | .agg c => by simp only [V.refs, V.bxs]; exact V.refsL_bxs n c
  | .tup c => by simp only [V.refs, V.bxs]; exact V.refsL_bxs n c
  | .own .. | .d _ | .nil | .ref _ | .yld _ | .dead => by simp [V.bxs]
theorem V.refsL_bxs (n : Name) : ∀ vs : List V, V.refsL n vs = false → n ∉ V.bxsL vs
  | [] => by simp [V.bxsL]
  | v :: vs => by
    simp only [V.refsL, V.bxsL, Bool.or_eq_false_iff, List.mem_append, not_or]
    exact fun ⟨a, b⟩ => ⟨V.refs_bxs n v a, V.refsL_bxs n vs b⟩
end
theorem V.cells_strip (i : Name) (v : V) : (v.strip i).cells = v.cells.map (V.strip i) := by
  cases v with
  | d x => cases x <;> simp [V.strip, V.cells, List.map_map, Function.comp_def]
  | own j sz xs => simp only [V.strip]; split <;> simp_all [V.cells, V.strip]
  | agg c => simp [V.strip, V.cells, V.stripL_map]
  | _ => simp [V.strip, V.cells]
theorem bxs_cells (v : V) (i : Nat) (hi : i < v.cells.length) : ∀ n ∈ (v.cells[i]).bxs, n ∈ v.bxs := by
  intro n hn
  cases v with
  | d x => cases x <;> simp_all [V.cells, V.bxs]
  | agg c => simp only [V.cells] at hn hi; simpa [V.bxs] using mem_bxsL hi hn
  | _ => simp_all [V.cells]
theorem ows_cells (v : V) (i : Nat) (hi : i < v.cells.length) : ∀ n ∈ (v.cells[i]).ows, n ∈ v.ows := by
  intro n hn
  cases v with
  | d x => cases x <;> simp_all [V.cells, V.ows]
  | agg c => simp only [V.cells] at hn hi; simpa [V.ows] using mem_owsL hi hn
  | _ => simp_all [V.cells]
theorem lps_cells (v : V) (i : Nat) (hi : i < v.cells.length) : ∀ n ∈ (v.cells[i]).lps, n ∈ v.lps := by
  intro n hn
  cases v with
  | d x => cases x <;> simp_all [V.cells, V.lps]
  | agg c => simp only [V.cells] at hn hi; simpa [V.lps] using mem_lpsL hi hn
  | _ => simp_all [V.cells]

/-! ### The values of a state -/
/-- P holds of each value that the state bears. -/
structure AllV (P : V → Prop) (s : Sa) : Prop where
  ts : ∀ t, P (lkT t s.ts)
  sv : ∀ f ∈ s.sv, ∀ t, P (lkT t f.ts)
  bx : ∀ n c, lookN n s.bx = some c → P c
theorem look_mem (P : V → Prop) (h0 : P .dead) (ts : List (Nat × V)) (h : ∀ x ∈ ts, P x.2) (t : Nat) : P (lkT t ts) := by
  induction ts with
  | nil => exact h0
  | cons y l ih =>
    simp only [lkT]; split
    · exact h _ (by simp)
    · exact ih (fun x hx => h x (by simp [hx]))
theorem lookN_mem {α : Type} {n : Name} {l : List (Name × α)} {c : α} (h : lookN n l = some c) : (n, c) ∈ l := by
  induction l with
  | nil => simp [lookN] at h
  | cons y l ih =>
    obtain ⟨s, v⟩ := y
    simp only [lookN] at h; split at h
    · rename_i e; simp at h; simp [← e, h]
    · simp [ih h]
theorem Sa.refs_all {s : Sa} {n : Name} (h : s.refs n = false) : AllV (fun v => n ∉ v.bxs) s := by
  simp only [Sa.refs, Bool.or_eq_false_iff, List.any_eq_false] at h
  obtain ⟨⟨h1, h2⟩, h3⟩ := h
  refine ⟨fun t => look_mem (fun v => n ∉ v.bxs) (by simp [V.bxs]) _ (fun x hx => V.refs_bxs n _ (Bool.eq_false_iff.2 (h1 x hx))) t, fun f hf t => look_mem (fun v => n ∉ v.bxs) (by simp [V.bxs]) _ (fun x hx => ?_) t,
    fun k c hk => V.refs_bxs n c (Bool.eq_false_iff.2 (h3 _ (lookN_mem hk)))⟩
  have h4 := h2 f hf
  rw [Bool.not_eq_true, List.any_eq_false] at h4
  exact V.refs_bxs n _ (Bool.eq_false_iff.2 (h4 x hx))

/-- Another map, another world, other mutable cells: what each value needs. -/
theorem Rel.remap {Mo m s as w w' m' s'} (h : Rel Mo m s as w)
    (hrd : s'.rd = s.rd) (hn : s'.n = s.n) (hts : s'.ts = s.ts) (hsv : s'.sv = s.sv) (hlp : s'.lp = s.lp)
    (hst : Stab w (Tot Mo s.bx s.ow m) w' (Tot Mo s'.bx s'.ow m'))
    (hv : AllV (fun v => (∀ n ∈ v.bxs, m'.bx n = m.bx n) ∧ (∀ i ∈ v.ows, ∀ sz x, Spare w m i sz x → Spare w' m' i sz x) ∧ (∀ l ∈ v.lps, m'.lp l = m.lp l)) s)
    (hsize : w.heap.size ≤ w'.heap.size)
    (hnc : ∀ (b : Nat) (o : Obj), w.heap[b]? = some o → (∀ c T f, o ≠ .cells c T f) → w'.heap[b]? = some o)
    (hlpm : ∀ l p, lookN l s.lp = some p → m'.lp l = m.lp l)
    (hbox : ∀ n c, lookN n s'.bx = some c → ∃ cs T, BoxOK w' (Tot Mo s'.bx s'.ow m') m' n c cs T)
    (hinj : ∀ n c n' c', lookN n s'.bx = some c → lookN n' s'.bx = some c' → m'.bx n = m'.bx n' → n = n')
    (howw : ∀ i ∈ s'.ow, nonempty (m'.ow i) → ∃ c T, w'.heap[(m'.ow i).1]? = some (.cells c T (0, 0)) ∧ (m'.ow i).2.2 ≤ c.size)
    (howx : ∀ i ∈ s'.ow, ∀ j ∈ s'.ow, nonempty (m'.ow i) → nonempty (m'.ow j) → (m'.ow i).1 = (m'.ow j).1 → i = j)
    (howb : ∀ i ∈ s'.ow, nonempty (m'.ow i) → ∀ n c, lookN n s'.bx = some c → (m'.ow i).1 ≠ m'.bx n)
    (howm : ∀ i ∈ s'.ow, nonempty (m'.ow i) → ∀ o, ¬ Mo (m'.ow i).1 o) : Rel Mo m' s' as w' := by
  have hfr : ∀ (f : Fr) (a : Act), (∀ t, (∀ n ∈ (lkT t f.ts).bxs, m'.bx n = m.bx n) ∧ (∀ i ∈ (lkT t f.ts).ows, ∀ sz x, Spare w m i sz x → Spare w' m' i sz x) ∧ (∀ l ∈ (lkT t f.ts).lps, m'.lp l = m.lp l)) →
      FrOK w (Tot Mo s.bx s.ow m) m f a → FrOK w' (Tot Mo s'.bx s'.ow m') m' f a := fun f a hf hx =>
    ⟨hx.size, fun t => (hx.ts t).mono hst (hf t).1 (hf t).2.1 (hf t).2.2, fun d hd => let ⟨r, e, hr⟩ := hx.def_ d hd; ⟨r, e, hnc _ _ hr (by simp)⟩⟩
  refine ⟨by rw [hsv]; exact h.len, ?_, hbox, hinj, howw, howx, howb, ?_, by rw [hlp]; exact h.dep, ?_, fun b o hm => Nat.lt_of_lt_of_le (h.mo b o hm) hsize, h.mks, howm⟩
  · intro i hi hi'
    have hi0 : i < (({ rd := s.rd, n := s.n, ts := s.ts } : Fr) :: s.sv).length := by simpa [hsv] using hi
    have := h.fr i hi0 hi'
    cases i with
    | zero =>
      simp only [List.getElem_cons_zero] at this ⊢
      rw [hrd, hn, hts]
      exact hfr _ _ (fun t => hv.ts t) this
    | succ i =>
      simp only [List.getElem_cons_succ] at this ⊢
      have e : s'.sv[i]'(by simpa using hi) = s.sv[i]'(by simpa using hi0) := by simp [hsv]
      rw [e]
      exact hfr _ _ (fun t => hv.sv _ (List.getElem_mem _) t) this
  · intro l p hl
    rw [hlp] at hl
    obtain ⟨r, a, hr⟩ := h.lps l p hl
    exact ⟨r, a, ⟨by rw [hlpm l p hl]; exact hnc _ _ hr.heap (by simp), hr.ps, hr.assign, hr.body, hr.own, hr.tmps, hr.stat⟩⟩
  · intro l p l' p' hl hl' e
    rw [hlp] at hl hl'
    rw [hlpm l p hl, hlpm l' p' hl'] at e
    exact h.lpi l p l' p' hl hl' e

/-! ### Stripping -/
theorem erase_ne {i j : Name} {l : List Name} (h : j ∈ l.erase i) : j ∈ l := List.mem_of_mem_erase h
theorem FrOK.strip {w M m f a} (i : Name) (h : FrOK w M m f a) : FrOK w M m { f with ts := mapT (V.strip i) f.ts } a :=
  ⟨h.size, fun t => by rw [look_mapT _ (by simp [V.strip])]; exact (h.ts t).strip i, h.def_⟩
theorem mut_less {bx ow ow' m b o} (h : ∀ i ∈ ow', i ∈ ow) (hm : Mut bx ow' m b o) : Mut bx ow m b o := by
  rcases hm with h1 | ⟨i, hi, h2⟩
  · exact .inl h1
  · exact .inr ⟨i, h i hi, h2⟩
theorem tot_less {Mo bx ow ow' m} (h : ∀ i ∈ ow', i ∈ ow) (w : World) : Stab w (Tot Mo bx ow m) w (Tot Mo bx ow' m) := fun b o c hc hm =>
  ⟨hc, fun hx => hm (hx.imp id (mut_less h))⟩
theorem Stab.mono_rep {w M m M' x v} (hs : Stab w M w M') (h : RepV w M m x v) : RepV w M' m x v := h.mono hs (fun _ _ => rfl) (fun _ _ _ _ h => h) (fun _ _ => rfl)
theorem FrOK.stab {w M m M' f a} (hs : Stab w M w M') (h : FrOK w M m f a) : FrOK w M' m f a := ⟨h.size, fun t => hs.mono_rep (h.ts t), h.def_⟩

/-- The state without the ownership of i; no value bears i any more. -/
theorem Rel.dropOw {Mo m s as w} (h : Rel Mo m s as w) (i : Name) (ow' : List Name) (hsub : ∀ j ∈ ow', j ∈ s.ow) :
    Rel Mo m { s with ts := mapT (V.strip i) s.ts, sv := s.sv.map (fun f => { f with ts := mapT (V.strip i) f.ts }), bx := s.bx.map (fun x => (x.1, x.2.strip i)), ow := ow' } as w := by
  have hmut : ∀ b o, Mut (s.bx.map (fun x => (x.1, x.2.strip i))) ow' m b o → Mut s.bx s.ow m b o := by
    intro b o hm
    rcases hm with ⟨n, c, hn, hb⟩ | ⟨j, hj, h2⟩
    · rw [lookN_map] at hn
      cases hc : lookN n s.bx with
      | none => simp [hc] at hn
      | some c' => exact .inl ⟨n, c', hc, hb⟩
    · exact .inr ⟨j, hsub j hj, h2⟩
  have hst : Stab w (Tot Mo s.bx s.ow m) w (Tot Mo (s.bx.map (fun x => (x.1, x.2.strip i))) ow' m) := fun b o c hc hm => ⟨hc, fun hx => hm (hx.imp id (hmut b o))⟩
  have hbx : ∀ n c, lookN n (s.bx.map (fun x => (x.1, x.2.strip i))) = some c → ∃ c', lookN n s.bx = some c' ∧ c = c'.strip i := by
    intro n c hn
    rw [lookN_map] at hn
    cases hc : lookN n s.bx with
    | none => simp [hc] at hn
    | some c' => simp [hc] at hn; exact ⟨c', rfl, hn.symm⟩
  refine ⟨by simpa using h.len, ?_, ?_, ?_, ?_, ?_, ?_, h.lps, h.dep, h.lpi, h.mo, h.mks, fun j hj => h.owm j (hsub j hj)⟩
  · intro k hk hk'
    have hk0 : k < (({ rd := s.rd, n := s.n, ts := s.ts } : Fr) :: s.sv).length := by simpa using hk
    have := ((h.fr k hk0 hk').stab hst).strip i
    cases k with
    | zero => exact this
    | succ k => simpa using this
  · intro n c hn
    obtain ⟨c', hc', rfl⟩ := hbx n c hn
    obtain ⟨cs, T, hb⟩ := h.box n c' hc'
    refine ⟨cs, T, hb.heap, by rw [V.cells_strip, List.length_map]; exact hb.size, fun k hk => hb.leafs k (by simpa [V.cells_strip] using hk), fun k hk => ?_⟩
    have hk' : k < c'.cells.length := by simpa [V.cells_strip] using hk
    have e : (c'.strip i).cells[k] = (c'.cells[k]).strip i := by simp [V.cells_strip]
    rw [e]
    exact (hst.mono_rep (hb.rep k hk')).strip i
  · intro n c n' c' hn hn' e
    obtain ⟨d, hd, _⟩ := hbx n c hn
    obtain ⟨d', hd', _⟩ := hbx n' c' hn'
    exact h.inj n d n' d' hd hd' e
  · exact fun j hj hne => h.oww j (hsub j hj) hne
  · exact fun j hj k hk h1 h2 e => h.owx j (hsub j hj) k (hsub k hk) h1 h2 e
  · intro j hj hne n c hn
    obtain ⟨d, hd, _⟩ := hbx n c hn
    exact h.owb j (hsub j hj) hne n d hd
theorem Rel.strip {Mo m s as w} (h : Rel Mo m s as w) (i : Name) : Rel Mo m (s.strip i) as w :=
  h.dropOw i _ (fun j hj => (List.mem_filter.1 hj).1)
theorem Sa.strip_ow {s : Sa} {i : Name} : i ∉ (s.strip i).ow := by simp [Sa.strip]
theorem Sa.strip_all (s : Sa) (i : Name) : AllV (fun v => i ∉ v.ows) (s.strip i) := by
  refine ⟨fun t => ?_, fun f hf t => ?_, fun n c hn => ?_⟩
  · simp only [Sa.strip]
    rw [look_mapT _ (by simp [V.strip])]
    exact fun hx => (V.ows_strip i _ i hx).2 rfl
  · simp only [Sa.strip, List.mem_map] at hf
    obtain ⟨f', _, rfl⟩ := hf
    rw [look_mapT _ (by simp [V.strip])]
    exact fun hx => (V.ows_strip i _ i hx).2 rfl
  · simp only [Sa.strip] at hn
    rw [lookN_map] at hn
    cases hc : lookN n s.bx with
    | none => simp [hc] at hn
    | some c' => simp [hc] at hn; subst hn; exact fun hx => (V.ows_strip i _ i hx).2 rfl
theorem mut_strip {s : Sa} {i : Name} {m b o} (hm : Mut (s.strip i).bx (s.strip i).ow m b o) : Mut s.bx s.ow m b o := by
  simp only [Sa.strip] at hm
  rcases hm with ⟨n, c, hn, e⟩ | ⟨j, hj, h2⟩
  · rw [lookN_map] at hn
    cases hc : lookN n s.bx with
    | none => simp [hc] at hn
    | some c' => exact .inl ⟨n, c', hc, e⟩
  · exact .inr ⟨j, (List.mem_filter.1 hj).1, h2⟩
theorem Step.strip {m s w m' s' w'} (i : Name) (h : Step m s w m' s' w') : Step m s w m' (s'.strip i) w' :=
  ⟨h.keeps, fun b o hb hm => h.mt b o hb (mut_strip hm), fun b hb hl => h.lp b hb hl, h.rd, by rw [← h.svrd]; simp [Sa.strip, List.map_map, Function.comp_def], h.lpm⟩

/-- A new name for a slice of its own, with a region that nobody has. -/
theorem Rel.own {Mo m s as w} (h : Rel Mo m s as w) (i : Name) (reg : Nat × Nat × Nat) (hi : i ∉ s.ow) (hno : AllV (fun v => i ∉ v.ows) s)
    (hreg : nonempty reg → (∃ c T, w.heap[reg.1]? = some (.cells c T (0, 0)) ∧ reg.2.2 ≤ c.size) ∧
      (∀ j ∈ s.ow, nonempty (m.ow j) → (m.ow j).1 ≠ reg.1) ∧ (∀ n c, lookN n s.bx = some c → reg.1 ≠ m.bx n) ∧ ∀ o, ¬ Mo reg.1 o)
    (hst : Stab w (Tot Mo s.bx s.ow m) w (Tot Mo s.bx (i :: s.ow) { m with ow := fun j => if j = i then reg else m.ow j })) :
    Rel Mo { m with ow := fun j => if j = i then reg else m.ow j } { s with ow := i :: s.ow } as w := by
  have hne : ∀ j ∈ s.ow, j ≠ i := fun j hj e => hi (e ▸ hj)
  have hall : ∀ v : V, i ∉ v.ows → (∀ n ∈ v.bxs, m.bx n = m.bx n) ∧
      (∀ j ∈ v.ows, ∀ sz x, Spare w m j sz x → Spare w { m with ow := fun j => if j = i then reg else m.ow j } j sz x) ∧ (∀ l ∈ v.lps, m.lp l = m.lp l) := fun v hv =>
    ⟨fun _ _ => rfl, fun j hj sz x hs => spare_heap hs (by have : j ≠ i := fun e => hv (e ▸ hj); simp [this]) (fun _ _ h => h), fun _ _ => rfl⟩
  refine h.remap (s' := { s with ow := i :: s.ow }) rfl rfl rfl rfl rfl hst ⟨fun t => hall _ (hno.ts t), fun f hf t => hall _ (hno.sv f hf t), fun n c hn => hall _ (hno.bx n c hn)⟩
    (Nat.le_refl _) (fun _ _ h _ => h) (fun _ _ _ => rfl) ?_ h.inj ?_ ?_ ?_ (fun j hj hn => by
      rcases List.mem_cons.1 hj with e | hj
      · simp only [e, if_true] at hn ⊢; exact (hreg hn).2.2.2
      · simp only [hne j hj, if_false] at hn ⊢; exact h.owm j hj hn)
  · intro n c hn
    obtain ⟨cs, T, hb⟩ := h.box n c hn
    refine ⟨cs, T, hb.heap, hb.size, hb.leafs, fun k hk => ?_⟩
    have hc := hall _ (hno.bx n c hn)
    exact (hb.rep k hk).mono hst (fun _ _ => rfl) (fun j hj => hc.2.1 j (ows_cells c k hk j hj)) (fun _ _ => rfl)
  · intro j hj hn
    rcases List.mem_cons.1 hj with rfl | hj
    · simp only [if_true] at hn ⊢; exact (hreg hn).1
    · simp only [hne j hj, if_false] at hn ⊢; exact h.oww j hj hn
  · intro j hj k hk h1 h2 e
    rcases List.mem_cons.1 hj with hj1 | hj1 <;> rcases List.mem_cons.1 hk with hk1 | hk1
    · rw [hj1, hk1]
    · simp only [hj1, if_true, hne k hk1, if_false] at h1 h2 e; exact absurd e.symm ((hreg h1).2.1 k hk1 h2)
    · simp only [hk1, if_true, hne j hj1, if_false] at h1 h2 e; exact absurd e ((hreg h2).2.1 j hj1 h1)
    · simp only [hne j hj1, hne k hk1, if_false] at h1 h2 e; exact h.owx j hj1 k hk1 h1 h2 e
  · intro j hj hn n c hc
    rcases List.mem_cons.1 hj with rfl | hj
    · simp only [if_true] at hn ⊢; exact (hreg hn).2.2.1 n c hc
    · simp only [hne j hj, if_false] at hn ⊢; exact h.owb j hj hn n c hc
theorem repD_nil {w M} : RepD w M (.sl []) (.slice none 0 0) :=
  RepD.sl (xs := []) (a := none) (cap := 0) 0 0 0 (fun _ _ => undef) (by simp) (by simp) (by simp) (by simp) (by simp) (by simp)
theorem tot_empty {Mo bx ow m i} {b o : Nat} (h : Tot Mo bx (i :: ow) { m with ow := fun j => if j = i then (0, 0, 0) else m.ow j } b o) : Tot Mo bx ow m b o := by
  rcases h with h | h | ⟨j, hj, h1, h2, h3⟩
  · exact .inl h
  · exact .inr (.inl h)
  · by_cases e : j = i
    · subst e; simp only [if_true] at h2 h3; omega
    · simp only [e, if_false] at h1 h2 h3
      rcases List.mem_cons.1 hj with e' | hj
      · exact absurd e' e
      · exact .inr (.inr ⟨j, hj, h1, h2, h3⟩)
/-- nil laid into a variable. -/
theorem Rel.claim {Mo m s as w} (h : Rel Mo m s as w) {v : V} {c : Value} (hv : RepV w (Tot Mo s.bx s.ow m) m v c) (i : Name) (sz : Option Nat) :
    ∃ m', Rel Mo m' (s.claim i sz v).2 as w ∧ RepV w (Tot Mo (s.claim i sz v).2.bx (s.claim i sz v).2.ow m') m' (s.claim i sz v).1 c ∧
      Step m s w m' (s.claim i sz v).2 w ∧ m'.bx = m.bx ∧ m'.lp = m.lp ∧ (s.claim i sz v).2.rd = s.rd ∧ (s.claim i sz v).2.n = s.n := by
  by_cases hc : ∃ z, v = .nil ∧ sz = some z
  · obtain ⟨z, rfl, rfl⟩ := hc
    cases hv
    simp only [Sa.claim]
    have h1 := (h.strip i).own i (0, 0, 0) Sa.strip_ow (Sa.strip_all s i) (fun hn => absurd hn (by simp [nonempty])) (fun b o c hcell hm => ⟨hcell, fun hx => hm (tot_empty hx)⟩)
    refine ⟨_, h1, .own repD_nil (by simp) (by simp [Spare]), ?_, rfl, rfl, rfl, rfl⟩
    refine ⟨.of_below (Below.refl _ _), fun b o _ hm => ?_, fun b _ hl => hl, rfl, by simp [Sa.strip, List.map_map, Function.comp_def], fun _ _ => rfl⟩
    have := tot_empty (Mo := fun _ _ => False) (.inr hm)
    rcases this with h0 | h0
    · exact h0.elim
    · exact mut_strip h0
  · have e : s.claim i sz v = (v, s) := by
      unfold Sa.claim
      split
      · exact absurd ⟨_, rfl, rfl⟩ hc
      · rfl
    rw [e]
    exact ⟨m, h, hv, Step.refl _ _ _, rfl, rfl, rfl, rfl⟩
end Go.Ab
