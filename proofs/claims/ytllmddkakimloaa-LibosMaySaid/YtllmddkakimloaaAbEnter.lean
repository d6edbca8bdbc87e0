import Derived.Test.YtllmddkakimloaaAbFun
/-! A function's contract from its body. -/
namespace Go.Ab
set_option linter.all false
open Go Go.RowKit
variable {P : Program} {w : World} {n : Nat} {Mo : Cells} {m : Mp} {s : Sa} {as : List Act} {p : Name}

theorem Rel.takeMark {a : Act} {r : Nat} {ds : List Deferred} (h : Rel Mo m s ({ a with defers := { target := .collected r, args := #[] } :: ds } :: as) w) (hr : w.heap[r]? = some (.deferred (some []))) (o : Obj) :
    Rel Mo m s ({ a with defers := ds } :: as) (w.putObj r o) := by
  have hne : ∀ (b : Nat) (x : Obj), w.heap[b]? = some x → (∀ y, x ≠ .deferred y) → (w.putObj r o).heap[b]? = some x := by
    intro b x hx hnx
    have : b ≠ r := fun e => by subst e; rw [hr] at hx; cases hx; exact hnx _ rfl
    rw [World.putObj_heap_other this]; exact hx
  have hst : Stab w (Tot Mo s.bx s.ow m) (w.putObj r o) (Tot Mo s.bx s.ow m) := by
    intro b j c hc hm
    refine ⟨?_, hm⟩
    have hb : b ≠ r := fun e => by subst e; simp [World.cell?, hr] at hc
    rw [World.cell?_of_block (w := w) (World.putObj_heap_other hb)]; exact hc
  have hsp : ∀ i sz v, Spare w m i sz v → Spare (w.putObj r o) m i sz v := by
    intro i sz v hs
    unfold Spare at hs ⊢
    split at hs
    · exact hs
    · obtain ⟨h1, h2, h3, c, T, h4, h5⟩ := hs
      exact ⟨h1, h2, h3, c, T, hne _ _ h4 (by simp), h5⟩
    · exact hs.elim
  have hrep : ∀ v c, RepV w (Tot Mo s.bx s.ow m) m v c → RepV (w.putObj r o) (Tot Mo s.bx s.ow m) m v c := fun v c hv => hv.mono hst (fun _ _ => rfl) (fun i _ sz v hs => hsp i sz v hs) (fun _ _ => rfl)
  have hmk := h.mks
  simp only [marks, List.flatMap_cons, List.cons_append, List.nodup_cons] at hmk
  have hdef : ∀ (d : Deferred), d ≠ { target := .collected r, args := #[] } → (∃ r', d = { target := .collected r', args := #[] } ∧ w.heap[r']? = some (.deferred (some []))) → ∃ r', d = { target := .collected r', args := #[] } ∧ (w.putObj r o).heap[r']? = some (.deferred (some [])) := by
    rintro d hd ⟨r', e, hr'⟩
    refine ⟨r', e, ?_⟩
    have : r' ≠ r := fun e' => hd (by rw [e, e'])
    rw [World.putObj_heap_other this]; exact hr'
  refine ⟨by simpa using h.len, ?_, ?_, h.inj, ?_, h.owx, h.owb, ?_, by simpa using h.dep, h.lpi, fun b j hm => by rw [World.putObj_size]; exact h.mo b j hm, ?_, h.owm⟩
  · intro i hi hi'
    cases i with
    | zero =>
      have h0 := h.fr 0 (by simp) (by simp)
      refine ⟨h0.size, fun t => hrep _ _ (h0.ts t), fun d hd => ?_⟩
      have hd' : d ∈ ds := by simpa using hd
      refine hdef d (fun e => hmk.1 (by rw [← e]; exact List.mem_append_left _ hd')) ?_
      exact h0.def_ d (by simp [hd'])
    | succ i =>
      have h0 := h.fr (i + 1) hi (by simpa using hi')
      simp only [List.getElem_cons_succ] at h0 ⊢
      refine ⟨h0.size, fun t => hrep _ _ (h0.ts t), fun d hd => ?_⟩
      refine hdef d (fun e => hmk.1 ?_) (h0.def_ d hd)
      rw [← e]
      exact List.mem_append_right _ (List.mem_flatMap.2 ⟨_, List.getElem_mem _, hd⟩)
  · intro nm c hn
    obtain ⟨cs, T, hb⟩ := h.box nm c hn
    exact ⟨cs, T, hne _ _ hb.heap (by simp), hb.size, hb.leafs, fun i hi => hrep _ _ (hb.rep i hi)⟩
  · intro i hi hn
    obtain ⟨c, T, h1, h2⟩ := h.oww i hi hn
    exact ⟨c, T, hne _ _ h1 (by simp), h2⟩
  · intro l q hl
    obtain ⟨rc, b, hx⟩ := h.lps l q hl
    refine ⟨rc, b, ⟨hne _ _ hx.heap (by simp), hx.ps, hx.assign, hx.body, ?_, hx.tmps, hx.stat⟩⟩
    have hown := hx.own
    have hd := h.dep l q hl
    simp only [List.length_cons] at hd
    rw [List.reverse_cons, List.getElem?_append_left (by simp; omega)] at hown ⊢
    exact hown
  · exact hmk.2
theorem below_putObj {B : Nat} {r : Nat} {o : Obj} (h : B ≤ r) : Below B w (w.putObj r o) :=
  ⟨rfl, rfl, rfl, by simp, fun k hk => World.putObj_heap_other (by omega)⟩
theorem Step.after {m' : Mp} {s' : Sa} {w1 w2 : World} (h : Step m s w m' s' w1) (hb : Below w.heap.size w1 w2) : Step m s w m' s' w2 := by
  refine ⟨⟨hb.os.trans h.keeps.os, hb.tape.trans h.keeps.tape, hb.output.trans h.keeps.output, Nat.le_trans h.keeps.size hb.size, fun b hlt hC hL => ?_, fun b c T f hc hL => ?_⟩, h.mt, h.lp, h.rd, h.svrd, h.lpm⟩
  · rw [hb.block b hlt]; exact h.keeps.blk b hlt hC hL
  · obtain ⟨c', h1, h2, h3⟩ := h.keeps.cel b c T f hc hL
    exact ⟨c', by rw [hb.block b (Array.getElem?_eq_some_iff.1 hc).1]; exact h1, h2, h3⟩

theorem leaves {fn : Func} {F : Fence} {R : Ending → World → Prop} {K : List V → Prop} (B : Nat) (hK : resK P s fn.results.toList K) : ∀ (ds : List Deferred) (a : Act) (w : World), a.defers = ds →
    Rel Mo m s (a :: as) w → (∀ d ∈ ds, ∃ r, d = { target := .collected r, args := #[] } ∧ B ≤ r) →
    (∀ vs c w', K vs → Rel Mo m s ({ a with defers := [] } :: as) w' → RepV w' (Tot Mo s.bx s.ow m) m (mkRes vs) c → Below B w w' → R (.returned c) w') →
    LeavesInM F n P fn a.tmps R ds .returning w := by
  intro ds
  induction ds with
  | nil =>
    intro a w hd hR _ hk
    obtain ⟨vs, c, k1, k2, k3⟩ := run_results' (P := P) hR K hK
    have e : ({ a with defers := [] } : Act) = a := by cases a; simp at hd; subst hd; rfl
    exact ⟨c, k2, hk vs c w k1 (by rw [e]; exact hR) k3 (Below.refl _ _)⟩
  | cons d ds ih =>
    intro a w hd hR hB hk
    obtain ⟨r, rfl, hr⟩ := hB d (by simp)
    obtain ⟨r', e, hr'⟩ := (hR.fr 0 (by simp) (by simp)).def_ { target := .collected r, args := #[] } (by simp [hd])
    cases e
    have e2 : a = { a with defers := { target := .collected r, args := #[] } :: ds } := by cases a; simp at hd; subst hd; rfl
    rw [e2] at hR
    have hR2 := hR.takeMark hr' (.deferred none)
    refine ⟨by simp, .inl ⟨r, _, rfl, run_takeDeferred hr', ?_⟩⟩
    exact ih { a with defers := ds } _ rfl hR2 (fun d hd => hB d (by simp [hd])) (fun vs c w' k1 k2 k3 k4 => hk vs c w' k1 k2 k3 ((below_putObj hr).trans k4))

theorem callsIn_round {r : Option Nat} {f : FuncId} {vs : Array Value} {R : Ending → World → Prop} (h : CallsIn (Wd none) n P f vs w R) : CallsIn (Wd r) n P f vs w R := h

def lpD (l : List (Name × Lp)) : List (Name × Nat) := l.map fun x => (x.1, x.2.depth)
theorem lpD_look : ∀ {l l' : List (Name × Lp)}, lpD l = lpD l' → ∀ {nm : Name} {q : Lp}, lookN nm l = some q → ∃ q', lookN nm l' = some q' ∧ q'.depth = q.depth := by
  intro l
  induction l with
  | nil => intro l' _ nm q h; simp [lookN] at h
  | cons x l ih =>
    intro l' e nm q h
    cases l' with
    | nil => simp [lpD] at e
    | cons y l' =>
      simp only [lpD, List.map_cons, List.cons.injEq, Prod.mk.injEq] at e
      obtain ⟨x1, x2⟩ := x
      obtain ⟨y1, y2⟩ := y
      simp only at e
      simp only [lookN] at h ⊢
      rw [← e.1.1]
      split at h
      · rename_i e'
        simp only [Option.some.injEq] at h; subst h
        exact ⟨y2, by rw [if_pos e'], e.1.2.symm⟩
      · rename_i e'
        rw [if_neg e']; exact ih e.2 h
/-- Behind the body of a function that was entered with a state below it. -/
def Left (k : V → Sa → Prop) (P : Program) (rs : List ResultVar) (s0 : Sa) (e : Ex) (s : Sa) : Prop :=
  (match e with | .exit _ => False | _ => True) ∧ s.sv.length = s0.sv.length + 1 ∧ lpD s.lp = lpD s0.lp ∧ resK P s rs fun vs => k (mkRes vs) s.pop
/-- **A call, by the body of what is called.** -/
theorem TCall_enter {f : FuncId} {fn : Func} {c : Code} {args : List V} {k : V → Sa → Prop} (q : Name) (hf : P.funcs[f]? = some fn) (hb : fn.body = some c) (hle : args.length ≤ fn.ntmps)
    (h : ev P (sems P) q c (s.push fn.ntmps (argTs 0 args)) (Left k P fn.results.toList s)) : TCall P p f args s k := by
  intro Mo m as w n vs r hR hargs
  refine callsIn_round (callsIn_of_wp_marks hf hb trivial ?_ rfl)
  have h0 := hR.push fn.ntmps hargs hle
  have h1 := ev_sound h Mo m _ as w n h0
  have hrd : rdOf m (s.push fn.ntmps (argTs 0 args)) = none := rfl
  rw [hrd] at h1
  refine wpIn_mono h1 ?_
  rintro e a' w' ⟨ex, m', s', he, ⟨hex, hsvl, hlpn, hres⟩, hR', hst, _, hmk⟩
  have hB : ∀ d ∈ a'.defers, ∃ r, d = { target := .collected r, args := #[] } ∧ w.heap.size ≤ r := fun d hd => by
    rcases hmk d hd with h | h
    · simp at h
    · exact h
  have hne : s'.sv ≠ [] := fun e => by rw [e] at hsvl; simp at hsvl
  have hfin : LeavesInM (Wd none) n P fn a'.tmps (CallPost Mo m s as w k) a'.defers .returning w' := by
    refine leaves w.heap.size hres a'.defers a' w' rfl hR' hB (fun vs c w2 hk hR2 hv hb => ?_)
    have hdep : ∀ l q, lookN l s'.lp = some q → q.depth + 1 < as.length := by
      intro l q hl
      obtain ⟨q0, h1, h2⟩ := lpD_look hlpn hl
      rw [← h2]; exact hR.dep l q0 h1
    have hpop := hR2.pop hne hdep
    obtain ⟨g, gs, hsv⟩ := List.exists_cons_of_ne_nil hne
    have hsvrd := hst.svrd
    rw [hsv] at hsvrd
    simp only [Sa.push, List.map_cons, List.cons.injEq] at hsvrd
    have hbx : s'.pop.bx = s'.bx ∧ s'.pop.ow = s'.ow ∧ s'.pop.lp = s'.lp ∧ s'.pop.rd = s.rd ∧ s'.pop.sv.map (·.rd) = s.sv.map (·.rd) := by
      simp only [Sa.pop, hsv]; exact ⟨trivial, trivial, trivial, hsvrd.1, hsvrd.2⟩
    have hst2 := hst.after hb
    have hlpm : ∀ l, some l ∈ rds s → m'.lp l = m.lp l := fun l hl => hst.lpm l (by
      simp only [rds, Sa.push, List.map_cons, List.mem_cons] at hl ⊢
      exact .inr hl)
    refine ⟨c, mkRes vs, m', s'.pop, rfl, hk, hpop, by rw [hbx.1, hbx.2.1]; exact hv, ⟨hst2.keeps, by rw [hbx.1, hbx.2.1]; exact hst2.mt, by rw [hbx.2.2.1]; exact hst2.lp, hbx.2.2.2.1, hbx.2.2.2.2, hlpm⟩, ?_⟩
    simp only [rdOf, hbx.2.2.2.1]
    cases hrs : s.rd with
    | none => rfl
    | some l => simp only [Option.map_some, hlpm l (by simp [rds, hrs])]
  cases e with
  | normal => cases he; exact hfin
  | ret => cases he; exact hfin
  | exit i => cases he; exact hex.elim
  | goto l => cases he
  | panic c => cases he
  | outgrown => cases he
end Go.Ab
