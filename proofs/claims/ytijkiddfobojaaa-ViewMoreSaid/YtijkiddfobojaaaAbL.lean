import Derived.Test.YtijkiddfobojaaaAbD
/-! Loops over functions: rounds. -/
namespace Go.Ab
set_option linter.all false
open Go Go.RowKit
variable {P : Program} {w : World} {n : Nat} {Mo : Cells} {m : Mp} {s : Sa} {as : List Act} {p : Name}

def setLp (s : Sa) (l : Name) (q : Lp) : Sa := { s with lp := setN l q s.lp }
/-- A loop's record turns. -/
theorem Rel.setLoop {l : Name} {q q' : Lp} {r r' : Loop} (h : Rel Mo m s as w) (hl : lookN l s.lp = some q) (hr : w.heap[m.lp l]? = some (.loop r))
    (hq : q'.depth = q.depth ∧ q'.ps = q.ps ∧ q'.assign = q.assign ∧ q'.body = q.body) (hr' : r'.params = r.params ∧ r'.assign = r.assign ∧ r'.body = r.body ∧ r'.tmps = r.tmps)
    (hst : match q'.pending with | none => r'.state = .ready ∧ r'.pending = none | some (some j) => r'.state = .done ∧ r'.pending = some j | some none => r'.state = .busy) :
    Rel Mo m (setLp s l q') as (w.putObj (m.lp l) (.loop r')) := by
  have hne : ∀ (b : Nat) (x : Obj), w.heap[b]? = some x → (∀ y, x ≠ .loop y) → (w.putObj (m.lp l) (.loop r')).heap[b]? = some x := by
    intro b x hx hnx
    have : b ≠ m.lp l := fun e => by subst e; rw [hr] at hx; cases hx; exact hnx _ rfl
    rw [World.putObj_heap_other this]; exact hx
  have hstab : Stab w (Tot Mo s.bx s.ow m) (w.putObj (m.lp l) (.loop r')) (Tot Mo s.bx s.ow m) := by
    intro b j c hc hm
    refine ⟨?_, hm⟩
    have hb : b ≠ m.lp l := fun e => by subst e; simp [World.cell?, hr] at hc
    rw [World.cell?_of_block (w := w) (World.putObj_heap_other hb)]; exact hc
  have hsp : ∀ i sz v, Spare w m i sz v → Spare (w.putObj (m.lp l) (.loop r')) m i sz v := by
    intro i sz v hs
    unfold Spare at hs ⊢
    split at hs
    · exact hs
    · obtain ⟨h1, h2, h3, c, T, h4, h5⟩ := hs
      exact ⟨h1, h2, h3, c, T, hne _ _ h4 (by simp), h5⟩
    · exact hs.elim
  have hrep : ∀ v c, RepV w (Tot Mo s.bx s.ow m) m v c → RepV (w.putObj (m.lp l) (.loop r')) (Tot Mo s.bx s.ow m) m v c := fun v c hv => hv.mono hstab (fun _ _ => rfl) (fun i _ sz v hs => hsp i sz v hs) (fun _ _ => rfl)
  have hlook : ∀ nm x, lookN nm (setLp s l q').lp = some x → (nm = l ∧ x = q') ∨ (nm ≠ l ∧ lookN nm s.lp = some x) := by
    intro nm x hx
    simp only [setLp, lookN_setN, hl, Option.map_some] at hx
    split at hx
    · rename_i e; exact .inl ⟨e, by cases hx; rfl⟩
    · rename_i e; exact .inr ⟨e, hx⟩
  refine ⟨h.len, ?_, ?_, h.inj, ?_, h.owx, h.owb, ?_, ?_, ?_, fun b j hm => by rw [World.putObj_size]; exact h.mo b j hm, h.mks, h.owm⟩
  · intro i hi hi'
    have h0 := h.fr i hi hi'
    refine ⟨h0.size, fun t => hrep _ _ (h0.ts t), fun d hd => ?_⟩
    obtain ⟨x, e, hx⟩ := h0.def_ d hd
    exact ⟨x, e, hne _ _ hx (by simp)⟩
  · intro nm c hn
    obtain ⟨cs, T, hb⟩ := h.box nm c hn
    exact ⟨cs, T, hb.heap.mono (fun o ho _ h2 => hne _ _ ho h2), hb.size, hb.leafs, fun i hi => hrep _ _ (hb.rep i hi)⟩
  · intro i hi hn
    obtain ⟨c, T, h1, h2⟩ := h.oww i hi hn
    exact ⟨c, T, hne _ _ h1 (by simp), h2⟩
  · intro nm x hx
    rcases hlook nm x hx with ⟨rfl, rfl⟩ | ⟨hnm, hx⟩
    · obtain ⟨rc, b, hy⟩ := h.lps nm q hl
      have e := hy.heap
      rw [hr] at e
      cases e
      refine ⟨r', b, ⟨?_, hr'.1.trans (hy.ps.trans hq.2.1.symm), hr'.2.1.trans (hy.assign.trans hq.2.2.1.symm), hr'.2.2.1.trans (hy.body.trans hq.2.2.2.symm), by rw [hq.1]; exact hy.own, hr'.2.2.2.trans hy.tmps, hst⟩⟩
      exact World.putObj_heap_same (Array.getElem?_eq_some_iff.1 hr).1
    · obtain ⟨rc, b, hy⟩ := h.lps nm x hx
      refine ⟨rc, b, ⟨?_, hy.ps, hy.assign, hy.body, hy.own, hy.tmps, hy.stat⟩⟩
      have : m.lp nm ≠ m.lp l := fun e => hnm (h.lpi nm x l q hx hl e)
      rw [World.putObj_heap_other this]; exact hy.heap
  · intro nm x hx
    rcases hlook nm x hx with ⟨rfl, rfl⟩ | ⟨_, hx⟩
    · rw [hq.1]; exact h.dep nm q hl
    · exact h.dep nm x hx
  · intro n1 x1 n2 x2 h1 h2 e
    have : ∀ nm x, lookN nm (setLp s l q').lp = some x → ∃ y, lookN nm s.lp = some y := fun nm x hx => by
      rcases hlook nm x hx with ⟨rfl, rfl⟩ | ⟨_, hx⟩
      · exact ⟨q, hl⟩
      · exact ⟨x, hx⟩
    obtain ⟨y1, e1⟩ := this n1 x1 h1
    obtain ⟨y2, e2⟩ := this n2 x2 h2
    exact h.lpi n1 y1 n2 y2 e1 e2 e

theorem Step.setLoop {l : Name} {q q' : Lp} {r' : Loop} (hl : lookN l s.lp = some q) (hlt : m.lp l < w.heap.size) : Step m s w m (setLp s l q') (w.putObj (m.lp l) (.loop r')) := by
  have hL : LpB s.lp m (m.lp l) := ⟨l, q, hl, rfl⟩
  refine ⟨⟨rfl, rfl, rfl, by simp, fun b hb _ hn => ?_, fun b c T f hc hn => ?_⟩, fun b o _ h => h, ?_, rfl, rfl, fun _ _ => rfl⟩
  · exact World.putObj_heap_other (fun e => hn (e ▸ hL))
  · have hb : b ≠ m.lp l := fun e => hn (by rw [e]; exact hL)
    exact ⟨c, by rw [World.putObj_heap_other hb]; exact hc, rfl, fun _ _ => rfl⟩
  · rintro b _ ⟨nm, x, hx, rfl⟩
    simp only [setLp, lookN_setN, hl, Option.map_some] at hx
    split at hx
    · rename_i e; exact ⟨nm, q, by rw [e]; exact hl, rfl⟩
    · exact ⟨nm, x, hx, rfl⟩
theorem lpD_setN (l : Name) (q q' : Lp) (h : q'.depth = q.depth) : ∀ lp : List (Name × Lp), lookN l lp = some q → lpD (setN l q' lp) = lpD lp := by
  intro lp
  induction lp with
  | nil => intro hl; simp [lookN] at hl
  | cons x lp ih =>
    obtain ⟨a, b⟩ := x
    intro hl
    simp only [lookN] at hl
    simp only [setN]
    split
    · rename_i e
      rw [if_pos e] at hl; cases hl
      simp [lpD, h]
    · rename_i e
      rw [if_neg e] at hl
      simp only [lpD, List.map_cons] at ih ⊢
      rw [ih hl]

/-- The slots of a round. -/
def setAll : List Nat → List V → List (Nat × V) → List (Nat × V)
  | t :: ts, v :: vs, l => setAll ts vs (setT t v l)
  | _, _, l => l
def frames (s : Sa) : List Fr := { rd := s.rd, n := s.n, ts := s.ts } :: s.sv
def Sa.round (s : Sa) (l : Name) (f : Fr) (ps : List Nat) (args : List V) : Sa := { rd := some l, n := f.n, ts := setAll ps args f.ts, sv := { rd := s.rd, n := s.n, ts := s.ts } :: s.sv, bx := s.bx, lp := s.lp, ow := s.ow }

theorem tsOK_setAll {M : Cells} : ∀ (ps : List Nat) (args : List V) (vs : List Value) (ts : List (Nat × V)) (tmps : Array Value) (nn : Nat), tmps.size = nn → (∀ t ∈ ps, t < nn) → args.length = vs.length → TsOK w M m ts tmps →
    (∀ i (h1 : i < args.length) (h2 : i < vs.length), RepV w M m args[i] vs[i]) →
    TsOK w M m (setAll ps args ts) ((ps.zip vs).foldl (fun tmps x => tmps.setIfInBounds x.1 x.2) tmps) ∧ ((ps.zip vs).foldl (fun tmps x => tmps.setIfInBounds x.1 x.2) tmps).size = nn := by
  intro ps
  induction ps with
  | nil => intro args vs ts tmps nn hn _ _ h _; exact ⟨by cases args <;> simpa [setAll] using h, by simpa using hn⟩
  | cons t ps ih =>
    intro args vs ts tmps nn hn hps hlen h hr
    cases args with
    | nil => cases vs with
      | nil => exact ⟨by simpa [setAll] using h, by simpa using hn⟩
      | cons v vs => simp at hlen
    | cons x args => cases vs with
      | nil => simp at hlen
      | cons v vs =>
        simp only [setAll, List.zip_cons_cons, List.foldl_cons]
        refine ih args vs _ _ nn (by simpa using hn) (fun u hu => hps u (List.mem_cons_of_mem _ hu)) (by simpa using hlen) ?_ (fun i h1 h2 => hr (i + 1) (by simpa using h1) (by simpa using h2))
        intro u
        have ht : t < tmps.size := by rw [hn]; exact hps t List.mem_cons_self
        rw [lkT_setT]
        split
        · rename_i e; subst e
          rw [Array.getD_eq_getD_getElem?, Array.getElem?_setIfInBounds_self_of_lt ht]
          exact hr 0 (by simp) (by simp)
        · rename_i e
          have := h u
          rw [Array.getD_eq_getD_getElem?] at this ⊢
          rw [Array.getElem?_setIfInBounds_ne (fun e' => e e'.symm)]; exact this

theorem Rel.round {l : Name} {q : Lp} {f : Fr} {args : List V} {vs : Array Value} {r : Loop} {a : Act} (h : Rel Mo m s as w) (hl : lookN l s.lp = some q) (hx : LpOK w m l q as r a) (hf : (frames s).reverse[q.depth]? = some f)
    (hps : ∀ t ∈ q.ps.toList, t < f.n) (hlen : args.length = q.ps.size) (ha : ArgsOK w (Tot Mo s.bx s.ow m) m args vs) :
    Rel Mo m (s.round l f q.ps.toList args) ({ tmps := (q.ps.toList.zip vs.toList).foldl (fun tmps x => tmps.setIfInBounds x.1 x.2) r.tmps, defers := [] } :: as) w := by
  have hfr : FrOK w (Tot Mo s.bx s.ow m) m f a := by
    have h1 := hx.own
    have hlenf : (frames s).length = as.length := by simp [frames, h.len]
    obtain ⟨i1, e1⟩ := List.getElem?_eq_some_iff.1 h1
    obtain ⟨i2, e2⟩ := List.getElem?_eq_some_iff.1 hf
    rw [List.getElem_reverse] at e1 e2
    have hi : (frames s).length - 1 - q.depth < (frames s).length := by simp at i2; omega
    have h0 := h.fr ((frames s).length - 1 - q.depth) hi (by omega)
    have e3 : as[(frames s).length - 1 - q.depth]'(by omega) = a := by rw [← e1]; congr 1; omega
    have e4 : (frames s)[(frames s).length - 1 - q.depth]'hi = f := e2
    rw [e3] at h0
    have : (({ rd := s.rd, n := s.n, ts := s.ts } : Fr) :: s.sv)[(frames s).length - 1 - q.depth]'hi = f := e4
    rw [this] at h0
    exact h0
  have hts := tsOK_setAll (w := w) (m := m) (M := Tot Mo s.bx s.ow m) q.ps.toList args vs.toList f.ts r.tmps f.n (by rw [hx.tmps]; exact hfr.size) hps (by simp [ha.1]) (by rw [hx.tmps]; exact hfr.ts) (fun i h1 h2 => by
    have := ha.2 i h1
    rw [Array.getD_eq_getD_getElem?, Array.getElem?_eq_getElem (by simpa using h2)] at this
    simpa using this)
  refine ⟨by simp [Sa.round, h.len], ?_, h.box, h.inj, h.oww, h.owx, h.owb, ?_, ?_, h.lpi, h.mo, ?_, h.owm⟩
  · intro i hi hi'
    cases i with
    | zero => exact ⟨hts.2, fun t => hts.1 t, fun d hd => by simp at hd⟩
    | succ i => exact h.fr i (by simpa [Sa.round] using hi) (by simpa using hi')
  · intro nm x hl
    obtain ⟨r, a, hr⟩ := h.lps nm x hl
    refine ⟨r, a, ⟨hr.heap, hr.ps, hr.assign, hr.body, ?_, hr.tmps, hr.stat⟩⟩
    have := hr.own
    have hd := h.dep nm x hl
    rw [List.reverse_cons, List.getElem?_append_left (by simp; omega)]; exact this
  · intro nm x hl
    have := h.dep nm x hl
    simp; omega
  · have := h.mks
    simpa [marks] using this
end Go.Ab
/-! A round, by the body of its loop. -/
namespace Go.Ab
set_option linter.all false
open Go Go.RowKit
variable {P : Program} {w : World} {n : Nat} {Mo : Cells} {m : Mp} {s : Sa} {as : List Act} {p : Name}

def jmp : Ex → Option (Option Code)
  | .norm => none
  | .exit i => some (some (.exit i))
  | .ret => some (some .ret)
def goesOn : Ex → Bool
  | .norm => true
  | _ => false
/-- Behind a round's body. -/
def EndK (l : Name) (s : Sa) (k : V → Sa → Prop) (e : Ex) (s2 : Sa) : Prop :=
  s2.sv.length = s.sv.length + 1 ∧ lpD s2.lp = lpD s.lp ∧ match lookN l s2.lp with
    | some q2 => k (.d (.b (goesOn e))) (setLp s2 l { q2 with pending := jmp e }).pop
    | none => False
/-- Behind a round's assignments. -/
def BeginK (P : Program) (p : Name) (l : Name) (q : Lp) (s : Sa) (k : V → Sa → Prop) (e : Ex) (s1 : Sa) : Prop :=
  match e with
  | .norm => match lookN l s1.lp with
    | some q1 => q1.pending = none ∧ q1.body = q.body ∧ ev P (sems P) p q.body (setLp s1 l { q1 with pending := some none }) (EndK l s k)
    | none => False
  | _ => False

theorem TYld_enter {l : Name} {q : Lp} {f : Fr} {args : List V} {k : V → Sa → Prop} (qn : Name) (hl : lookN l s.lp = some q) (hf : (frames s).reverse[q.depth]? = some f)
    (hps : ∀ t ∈ q.ps.toList, t < f.n) (hlen : args.length = q.ps.size)
    (h : ev P (sems P) qn q.assign (s.round l f q.ps.toList args) (BeginK P qn l q s k)) : TYld P p l args s k := by
  intro Mo m as w n vs r hR hargs
  obtain ⟨rec, a, hx⟩ := hR.lps l q hl
  refine ⟨rec, hx.heap, by rw [hargs.1, hx.ps, hlen], ?_⟩
  refine roundIn_of_wpIn trivial ?_
  have hz : (rec.params.zip vs).foldl (fun tmps (x : Tmp × Value) => tmps.setIfInBounds x.1 x.2) rec.tmps = (q.ps.toList.zip vs.toList).foldl (fun tmps x => tmps.setIfInBounds x.1 x.2) rec.tmps := by
    rw [← Array.foldl_toList, Array.toList_zip, hx.ps]
  have h0 := hR.round hl hx hf hps hlen hargs
  have h1 := ev_sound h Mo m _ as w n h0
  have hrd : rdOf m (s.round l f q.ps.toList args) = some (m.lp l) := rfl
  rw [hrd] at h1
  have hasg : rec.assign = q.assign := hx.assign
  have hbod : rec.body = q.body := hx.body
  rw [hasg, hbod]
  have e0 : ((rec.params.zip vs).foldl (fun tmps (t, a) => tmps.setIfInBounds t a) rec.tmps) = (q.ps.toList.zip vs.toList).foldl (fun tmps x => tmps.setIfInBounds x.1 x.2) rec.tmps := hz
  rw [e0]
  refine wpIn_mono h1 ?_
  rintro e a1 w1 ⟨ex, m1, s1, he, hk, hR1, hst1, hrd1, _⟩
  cases ex with
  | exit i => exact hk.elim
  | ret => exact hk.elim
  | norm =>
    have en : e = .normal := by cases e <;> simp [exOf] at he; rfl
    subst en
    simp only [BeginK] at hk
    split at hk
    · rename_i q1 hq1
      obtain ⟨hp1, hb1, hk⟩ := hk
      have hs1rd : s1.rd = some l := hst1.rd
      have hm1 : m1.lp l = m.lp l := by
        have : rdOf m1 s1 = some (m.lp l) := hrd1
        simp only [rdOf, hs1rd, Option.map_some, Option.some.injEq] at this; exact this
      obtain ⟨rc1, b1, hx1⟩ := hR1.lps l q1 hq1
      have hstat := hx1.stat
      rw [hp1] at hstat
      refine ⟨_, by rw [← hm1]; exact run_beginRound hx1.heap hstat.1, ?_⟩
      have hR2 := hR1.setLoop (q' := { q1 with pending := some none }) (r' := { rc1 with state := .busy }) hq1 hx1.heap ⟨rfl, rfl, rfl, rfl⟩ ⟨rfl, rfl, rfl, rfl⟩ rfl
      have hlt1 : m1.lp l < w1.heap.size := (Array.getElem?_eq_some_iff.1 hx1.heap).1
      have hst2 := hst1.trans (Step.setLoop (q' := { q1 with pending := some none }) (r' := { rc1 with state := .busy }) hq1 hlt1)
      have h2 := ev_sound hk Mo m1 a1 as _ n hR2
      have hrd2 : rdOf m1 (setLp s1 l { q1 with pending := some none }) = some (m.lp l) := hrd1
      rw [hrd2] at h2
      rw [← hm1]
      rw [← hm1] at h2
      refine wpIn_mono h2 ?_
      rintro e2 a2 w2 ⟨ex2, m2, s2, he2, hk2, hR3, hst3, hrd3, _⟩
      obtain ⟨hsvl, hlpn, hk2⟩ := hk2
      split at hk2
      · rename_i q2 hq2
        obtain ⟨rc2, b2, hx2⟩ := hR3.lps l q2 hq2
        have hs2rd : s2.rd = some l := hst3.rd.trans hs1rd
        have hm2 : m2.lp l = m1.lp l := by
          rw [hrd2] at hrd3
          simp only [rdOf, hs2rd, Option.map_some, Option.some.injEq] at hrd3; rw [hrd3, hm1]
        have hlt2 : m2.lp l < w2.heap.size := (Array.getElem?_eq_some_iff.1 hx2.heap).1
        have hstt := hst2.trans hst3
        -- the record turns; the frame goes
        have fin : ∀ (j : Option Code) (q3 : Lp), jmp ex2 = (match j with | none => none | some c => some (some c)) → q3 = { q2 with pending := jmp ex2 } → goesOn ex2 = j.isNone →
            ∃ v w', (Instr.endRound (m1.lp l) j).run P w2 = .ok v w' ∧ CallPost Mo m s as w k (.returned v) w' := by
          intro j q3 hj hq3 hg
          refine ⟨_, _, by rw [← hm2]; exact run_endRound j hx2.heap, ?_⟩
          have hR4 := hR3.setLoop (q' := q3) (r' := { rc2 with state := if j.isNone then .ready else .done, pending := j }) hq2 hx2.heap (by rw [hq3]; exact ⟨rfl, rfl, rfl, rfl⟩) ⟨rfl, rfl, rfl, rfl⟩ (by
            rw [hq3]; simp only [hj]
            cases j with
            | none => exact ⟨rfl, rfl⟩
            | some c => exact ⟨rfl, rfl⟩)
          have hst4 := hstt.trans (Step.setLoop (q' := q3) (r' := { rc2 with state := if j.isNone then .ready else .done, pending := j }) hq2 hlt2)
          have hne : (setLp s2 l q3).sv ≠ [] := fun e => by simp only [setLp] at e; rw [e] at hsvl; simp at hsvl
          have hlp3 : lpD (setLp s2 l q3).lp = lpD s.lp := by rw [← hlpn]; exact lpD_setN l q2 q3 (by rw [hq3]) _ hq2
          have hdep : ∀ nm x, lookN nm (setLp s2 l q3).lp = some x → x.depth + 1 < as.length := by
            intro nm x hx
            obtain ⟨q0, e1, e2⟩ := lpD_look hlp3 hx
            rw [← e2]; exact hR.dep nm q0 e1
          have hpop := hR4.pop hne hdep
          obtain ⟨g, gs, hsv⟩ := List.exists_cons_of_ne_nil hne
          have hsvrd := hst4.svrd
          rw [hsv] at hsvrd
          simp only [Sa.round, List.map_cons, List.cons.injEq] at hsvrd
          have hbx : (setLp s2 l q3).pop.bx = (setLp s2 l q3).bx ∧ (setLp s2 l q3).pop.ow = (setLp s2 l q3).ow ∧ (setLp s2 l q3).pop.lp = (setLp s2 l q3).lp ∧ (setLp s2 l q3).pop.rd = s.rd ∧ (setLp s2 l q3).pop.sv.map (·.rd) = s.sv.map (·.rd) := by
            simp only [Sa.pop, hsv]; exact ⟨trivial, trivial, trivial, hsvrd.1, hsvrd.2⟩
          have hlpm : ∀ nm, some nm ∈ rds s → m2.lp nm = m.lp nm := fun nm hnm => hst4.lpm nm (by
            simp only [rds, Sa.round, List.map_cons, List.mem_cons] at hnm ⊢
            exact .inr hnm)
          refine ⟨.bool j.isNone, .d (.b (goesOn ex2)), m2, (setLp s2 l q3).pop, rfl, by rw [hq3]; exact hk2, hpop, by rw [hg]; exact .d (.v trivial),
            ⟨hst4.keeps, by rw [hbx.1, hbx.2.1]; exact hst4.mt, by rw [hbx.2.2.1]; exact hst4.lp, hbx.2.2.2.1, hbx.2.2.2.2, hlpm⟩, ?_⟩
          simp only [rdOf, hbx.2.2.2.1]
          cases hrs : s.rd with
          | none => rfl
          | some l => simp only [Option.map_some, hlpm l (by simp [rds, hrs])]
        cases e2 with
        | normal => cases he2; exact fin none _ rfl rfl rfl
        | ret => cases he2; exact fin (some .ret) _ rfl rfl rfl
        | exit i => cases he2; exact fin (some (.exit i)) _ rfl rfl rfl
        | goto l => cases he2
        | panic c => cases he2
        | outgrown => cases he2
      · exact hk2.elim
    · exact hk.elim
end Go.Ab
/-! A loop over a function: entry, end. -/
namespace Go.Ab
set_option linter.all false
open Go Go.RowKit
variable {P : Program} {w : World} {n : Nat} {Mo : Cells} {m : Mp} {s : Sa} {as : List Act} {p : Name}

mutual
def V.ylds (n : Name) : V → Bool
  | .yld m => m == n
  | .fn _ c => V.yldsL n c
  | .agg c => V.yldsL n c
  | .tup c => V.yldsL n c
  | _ => false
def V.yldsL (n : Name) : List V → Bool
  | [] => false
  | v :: vs => v.ylds n || V.yldsL n vs
end
mutual
theorem V.ylds_lps (n : Name) : ∀ v : V, v.ylds n = false → n ∉ v.lps
  | .yld m => by simp [V.ylds, V.lps]; exact fun h e => h e.symm
  | .fn f c => by simp only [V.ylds, V.lps]; exact V.yldsL_lps n c
  | .agg c => by simp only [V.ylds, V.lps]; exact V.yldsL_lps n c
  | .tup c => by simp only [V.ylds, V.lps]; exact V.yldsL_lps n c
  | .own .. | .d _ | .nil | .ref _ | .ptr .. | .mref _ | .mpc .. | .dead => by simp [V.lps]
theorem V.yldsL_lps (n : Name) : ∀ vs : List V, V.yldsL n vs = false → n ∉ V.lpsL vs
  | [] => by simp [V.lpsL]
  | v :: vs => by
    simp only [V.yldsL, V.lpsL, Bool.or_eq_false_iff, List.mem_append, not_or]
    exact fun ⟨a, b⟩ => ⟨V.ylds_lps n v a, V.yldsL_lps n vs b⟩
end
def Sa.ylds (s : Sa) (n : Name) : Bool :=
  s.ts.any (fun x => x.2.ylds n) || s.sv.any (fun f => f.ts.any (fun x => x.2.ylds n)) || s.bx.any (fun x => x.2.ylds n)
theorem Sa.ylds_all {n : Name} (h : s.ylds n = false) : AllV (fun v => n ∉ v.lps) s := by
  simp only [Sa.ylds, Bool.or_eq_false_iff, List.any_eq_false] at h
  obtain ⟨⟨h1, h2⟩, h3⟩ := h
  refine ⟨fun t => look_mem (fun v => n ∉ v.lps) (by simp [V.lps]) _ (fun x hx => V.ylds_lps n _ (Bool.eq_false_iff.2 (h1 x hx))) t, fun f hf t => look_mem (fun v => n ∉ v.lps) (by simp [V.lps]) _ (fun x hx => ?_) t,
    fun k c hk => V.ylds_lps n c (Bool.eq_false_iff.2 (h3 _ (lookN_mem hk)))⟩
  have h4 := h2 f hf
  rw [Bool.not_eq_true, List.any_eq_false] at h4
  exact V.ylds_lps n _ (Bool.eq_false_iff.2 (h4 x hx))

def Mp.setLp (m : Mp) (l : Name) (N : Nat) : Mp := { m with lp := fun x => if x = l then N else m.lp x }
theorem RepV.newLp {w' : World} {M : Cells} {v : V} {c : Value} {l : Name} {N : Nat} (h : RepV w M m v c) (hy : l ∉ v.lps) (hbl : Below w.heap.size w w') : RepV w' M (m.setLp l N) v c :=
  h.mono (stab_below M hbl) (fun _ _ => rfl) (fun _ _ _ _ hs => spare_heap hs rfl (fun _ _ => heap_below hbl)) (fun k hk => by
    have : k ≠ l := fun e => hy (e ▸ hk)
    simp [Mp.setLp, this])
theorem Rel.newLp {w' : World} {l : Name} {N : Nat} (h : Rel Mo m s as w) (hy : AllV (fun v => l ∉ v.lps) s) (hn : lookN l s.lp = none) (hbl : Below w.heap.size w w') : Rel Mo (m.setLp l N) s as w' := by
  have hall : ∀ x : V, l ∉ x.lps → (∀ n ∈ x.bxs, m.bx n = m.bx n) ∧ (∀ i ∈ x.ows, ∀ sz y, Spare w m i sz y → Spare w' (m.setLp l N) i sz y) ∧ (∀ k ∈ x.lps, (m.setLp l N).lp k = m.lp k) := fun x hx =>
    ⟨fun _ _ => rfl, fun _ _ _ _ hs => spare_heap hs rfl (fun _ _ => heap_below hbl), fun k hk => by
      have : k ≠ l := fun e => hx (e ▸ hk)
      simp [Mp.setLp, this]⟩
  refine h.remap (s' := s) (m' := m.setLp l N) rfl rfl rfl rfl rfl (stab_below _ hbl) ⟨fun t => hall _ (hy.ts t), fun g hg t => hall _ (hy.sv g hg t), fun n d hd => hall _ (hy.bx n d hd)⟩
    hbl.size (fun b o ho _ => heap_below hbl ho) (fun k q hk => ?_) ?_ h.inj ?_ h.owx h.owb h.owm
  · have : k ≠ l := fun e => by rw [e, hn] at hk; cases hk
    simp [Mp.setLp, this]
  · intro nm d hd
    obtain ⟨cs, T, hb⟩ := h.box nm d hd
    exact ⟨cs, T, hb.heap.mono (fun _ ho _ _ => heap_below hbl ho), hb.size, hb.leafs, fun i hi => (hb.rep i hi).newLp (fun hx => hy.bx nm d hd (lps_cells d i hi l hx)) hbl⟩
  · intro i hi hne
    obtain ⟨c, T, h1, h2⟩ := h.oww i hi hne
    exact ⟨c, T, heap_below hbl h1, h2⟩

theorem Rel.marks_lt (h : Rel Mo m s as w) : ∀ d ∈ marks as, ∃ r, d = { target := .collected r, args := #[] } ∧ r < w.heap.size := by
  intro d hd
  obtain ⟨a, ha, hd⟩ := List.mem_flatMap.1 hd
  obtain ⟨i, hi, rfl⟩ := List.getElem_of_mem ha
  obtain ⟨r, e, hr⟩ := (h.fr i (by rw [List.length_cons, ← h.len]; exact hi) hi).def_ d hd
  exact ⟨r, e, (Array.getElem?_eq_some_iff.1 hr).1⟩
theorem Rel.addMark {a : Act} {r : Nat} (h : Rel Mo m s (a :: as) w) (hr : w.heap[r]? = some (.deferred (some []))) (hnew : ∀ d ∈ marks (a :: as), d ≠ { target := .collected r, args := #[] }) :
    Rel Mo m s ({ a with defers := { target := .collected r, args := #[] } :: a.defers } :: as) w := by
  refine ⟨by simpa using h.len, ?_, h.box, h.inj, h.oww, h.owx, h.owb, ?_, by simpa using h.dep, h.lpi, h.mo, ?_, h.owm⟩
  · intro i hi hi'
    cases i with
    | zero =>
      have h0 := h.fr 0 (by simp) (by simp)
      refine ⟨h0.size, h0.ts, fun d hd => ?_⟩
      rcases List.mem_cons.1 hd with rfl | hd
      · exact ⟨r, rfl, hr⟩
      · exact h0.def_ d hd
    | succ i => exact h.fr (i + 1) hi (by simpa using hi')
  · intro l q hl
    obtain ⟨rc, b, hx⟩ := h.lps l q hl
    refine ⟨rc, b, ⟨hx.heap, hx.ps, hx.assign, hx.body, ?_, hx.tmps, hx.stat⟩⟩
    have hown := hx.own
    have hd := h.dep l q hl
    simp only [List.length_cons] at hd
    rw [List.reverse_cons, List.getElem?_append_left (by simp; omega)] at hown ⊢
    exact hown
  · have := h.mks
    simp only [marks, List.flatMap_cons, List.cons_append, List.nodup_cons] at this ⊢
    exact ⟨fun hm => hnew _ (by simpa [marks] using hm) rfl, this⟩
theorem Rel.addLoop {l : Name} {q : Lp} {r : Loop} {a : Act} (h : Rel Mo m s as w) (hn : lookN l s.lp = none) (hx : LpOK w m l q as r a) (hd : q.depth + 1 < as.length) (hf : ∀ l' p', lookN l' s.lp = some p' → m.lp l' ≠ m.lp l) :
    Rel Mo m { s with lp := (l, q) :: s.lp } as w := by
  refine ⟨h.len, h.fr, h.box, h.inj, h.oww, h.owx, h.owb, ?_, ?_, ?_, h.mo, h.mks, h.owm⟩
  · intro nm x hl
    simp only [lookN] at hl
    split at hl
    · rename_i e; cases hl; subst e; exact ⟨r, a, hx⟩
    · exact h.lps nm x hl
  · intro nm x hl
    simp only [lookN] at hl
    split at hl
    · cases hl; exact hd
    · exact h.dep nm x hl
  · intro n1 x1 n2 x2 h1 h2 e
    simp only [lookN] at h1 h2
    split at h1
    · rename_i e1
      split at h2
      · rename_i e2; rw [← e1, ← e2]
      · subst e1; exact absurd e.symm (hf n2 x2 h2)
    · split at h2
      · rename_i e2; subst e2; exact absurd e (hf n1 x1 h1)
      · exact h.lpi n1 x1 n2 x2 h1 h2 e
theorem Rel.dropLoop {l : Name} {q : Lp} {tl : List (Name × Lp)} {r r' : Loop} (h : Rel Mo m s as w) (hs : s.lp = (l, q) :: tl) (hn : lookN l tl = none) (hr : w.heap[m.lp l]? = some (.loop r)) :
    Rel Mo m { s with lp := tl } as (w.putObj (m.lp l) (.loop r')) := by
  have hne : ∀ (b : Nat) (x : Obj), w.heap[b]? = some x → (∀ y, x ≠ .loop y) → (w.putObj (m.lp l) (.loop r')).heap[b]? = some x := by
    intro b x hx hnx
    have : b ≠ m.lp l := fun e => by subst e; rw [hr] at hx; cases hx; exact hnx _ rfl
    rw [World.putObj_heap_other this]; exact hx
  have hstab : Stab w (Tot Mo s.bx s.ow m) (w.putObj (m.lp l) (.loop r')) (Tot Mo s.bx s.ow m) := by
    intro b j c hc hm
    refine ⟨?_, hm⟩
    have hb : b ≠ m.lp l := fun e => by subst e; simp [World.cell?, hr] at hc
    rw [World.cell?_of_block (w := w) (World.putObj_heap_other hb)]; exact hc
  have hsp : ∀ i sz v, Spare w m i sz v → Spare (w.putObj (m.lp l) (.loop r')) m i sz v := by
    intro i sz v hs
    unfold Spare at hs ⊢
    split at hs
    · exact hs
    · obtain ⟨h1, h2, h3, c, T, h4, h5⟩ := hs
      exact ⟨h1, h2, h3, c, T, hne _ _ h4 (by simp), h5⟩
    · exact hs.elim
  have hrep : ∀ v c, RepV w (Tot Mo s.bx s.ow m) m v c → RepV (w.putObj (m.lp l) (.loop r')) (Tot Mo s.bx s.ow m) m v c := fun v c hv => hv.mono hstab (fun _ _ => rfl) (fun i _ sz v hs => hsp i sz v hs) (fun _ _ => rfl)
  have hlook : ∀ nm x, lookN nm tl = some x → nm ≠ l ∧ lookN nm s.lp = some x := by
    intro nm x hx
    have : nm ≠ l := fun e => by rw [e, hn] at hx; cases hx
    exact ⟨this, by rw [hs]; simp only [lookN]; rw [if_neg (Ne.symm this)]; exact hx⟩
  have hll : lookN l s.lp = some q := by rw [hs]; simp [lookN]
  refine ⟨h.len, ?_, ?_, h.inj, ?_, h.owx, h.owb, ?_, ?_, ?_, fun b j hm => by rw [World.putObj_size]; exact h.mo b j hm, h.mks, h.owm⟩
  · intro i hi hi'
    have h0 := h.fr i hi hi'
    refine ⟨h0.size, fun t => hrep _ _ (h0.ts t), fun d hd => ?_⟩
    obtain ⟨x, e, hx⟩ := h0.def_ d hd
    exact ⟨x, e, hne _ _ hx (by simp)⟩
  · intro nm c hn
    obtain ⟨cs, T, hb⟩ := h.box nm c hn
    exact ⟨cs, T, hb.heap.mono (fun o ho _ h2 => hne _ _ ho h2), hb.size, hb.leafs, fun i hi => hrep _ _ (hb.rep i hi)⟩
  · intro i hi hn
    obtain ⟨c, T, h1, h2⟩ := h.oww i hi hn
    exact ⟨c, T, hne _ _ h1 (by simp), h2⟩
  · intro nm x hx
    obtain ⟨h1, h2⟩ := hlook nm x hx
    obtain ⟨rc, b, hy⟩ := h.lps nm x h2
    refine ⟨rc, b, ⟨?_, hy.ps, hy.assign, hy.body, hy.own, hy.tmps, hy.stat⟩⟩
    have : m.lp nm ≠ m.lp l := fun e => h1 (h.lpi nm x l q h2 hll e)
    rw [World.putObj_heap_other this]; exact hy.heap
  · intro nm x hx
    exact h.dep nm x (hlook nm x hx).2
  · intro n1 x1 n2 x2 h1 h2 e
    exact h.lpi n1 x1 n2 x2 (hlook n1 x1 h1).2 (hlook n2 x2 h2).2 e
theorem Rel.setRd (h : Rel Mo m s as w) (r : Option Name) : Rel Mo m { s with rd := r } as w := by
  refine ⟨h.len, ?_, h.box, h.inj, h.oww, h.owx, h.owb, h.lps, h.dep, h.lpi, h.mo, h.mks, h.owm⟩
  intro i hi hi'
  cases i with
  | zero => exact ⟨(h.fr 0 (by simp) hi').size, (h.fr 0 (by simp) hi').ts, (h.fr 0 (by simp) hi').def_⟩
  | succ i => exact h.fr (i + 1) hi hi'

def Sa.loopIn (s : Sa) (l : Name) (nt : Nat) (args : List V) (q : Lp) : Sa := { rd := none, n := nt, ts := argTs 0 args, sv := { rd := some l, n := s.n, ts := s.ts } :: s.sv, bx := s.bx, lp := (l, q) :: s.lp, ow := s.ow }
def Sa.loopOut (s : Sa) : Sa := match s.sv with
  | f :: fs => { rd := none, n := f.n, ts := f.ts, sv := fs, bx := s.bx, lp := s.lp.tail, ow := s.ow }
  | [] => s
/-- Behind the function that was ranged over. -/
def LeftLoop (P : Program) (p : Name) (rs : List ResultVar) (l : Name) (s0 : Sa) (Q : Ex → Sa → Prop) (e : Ex) (s : Sa) : Prop :=
  (match e with | .exit _ => False | _ => True) ∧ s.sv.length = s0.sv.length + 1 ∧ lpD s.lp = (l, s0.sv.length) :: lpD s0.lp ∧ resK P s rs fun _ => match s.lp with
    | (_, q) :: _ => match q.pending with
      | none => Q .norm s.loopOut
      | some none => False
      | some (some c) => ev P (sems P) p c s.loopOut Q
    | [] => False

theorem Rel.loopIn {a : Act} {sv : List Act} {w1 : World} {l : Name} {args : List V} {vs : Array Value} {nt : Nat} {ps : Array Tmp} {assign body : Code} {r : Loop} {B : Nat} (h : Rel Mo m s (a :: sv) w) (hy : AllV (fun v => l ∉ v.lps) s) (hn : lookN l s.lp = none)
    (hbl : Below w.heap.size w w1) (hB : w1.heap[B]? = some (.deferred (some []))) (hBs : w.heap.size ≤ B) {N : Nat} (hN : w1.heap[N]? = some (.loop r)) (hNs : w.heap.size ≤ N)
    (hr : r.params = ps ∧ r.assign = assign ∧ r.body = body ∧ r.tmps = a.tmps ∧ r.state = .ready ∧ r.pending = none)
    (ha : ArgsOK w1 (Tot Mo s.bx s.ow m) (m.setLp l N) args vs) (hle : args.length ≤ nt) :
    Rel Mo (m.setLp l N) (s.loopIn l nt args ⟨s.sv.length, ps, assign, body, none⟩)
      ({ tmps := vs ++ Array.replicate (nt - vs.size) undef, defers := [] } :: { a with defers := { target := .collected B, args := #[] } :: a.defers } :: sv) w1 := by
  have h1 := (h.newLp (N := N) hy hn hbl).addMark hB (fun d hd => by
    obtain ⟨r, e, hr⟩ := h.marks_lt d hd
    intro e2
    rw [e] at e2
    have : r = B := by cases e2; rfl
    omega)
  have h2 := (h1.setRd (some l)).push (args := args) (vs := vs) nt ha hle
  refine h2.addLoop (l := l) (q := ⟨s.sv.length, ps, assign, body, none⟩) (r := r) (a := { a with defers := { target := .collected B, args := #[] } :: a.defers }) hn ?_ ?_ ?_
  · refine ⟨by simpa [Mp.setLp] using hN, hr.1, hr.2.1, hr.2.2.1, ?_, hr.2.2.2.1, hr.2.2.2.2⟩
    have hl := h.len
    simp only [List.length_cons, Nat.add_right_cancel_iff] at hl
    have e : ∀ (x y : Act), (x :: y :: sv).reverse[s.sv.length]? = some y := fun x y => by
      rw [← hl]
      simp
    exact e _ _
  · have hl := h.len
    simp only [List.length_cons] at hl ⊢
    omega
  · intro l' p' hl
    have : l' ≠ l := fun e => by rw [e] at hl; exact absurd hl (by simp [Sa.push, hn])
    obtain ⟨rc, b, hx⟩ := h.lps l' p' hl
    have := (Array.getElem?_eq_some_iff.1 hx.heap).1
    simp only [Mp.setLp, if_true]
    rw [if_neg (by assumption)]
    omega

theorem lpD_none : ∀ {l l' : List (Name × Lp)}, lpD l = lpD l' → ∀ {nm : Name}, lookN nm l = none → lookN nm l' = none := by
  intro l l' e nm h
  cases h' : lookN nm l' with
  | none => rfl
  | some q =>
    obtain ⟨q', h1, _⟩ := lpD_look e.symm h'
    rw [h] at h1; cases h1

/-- **A loop over a function, by the body of the function.** -/
theorem TC_rangeFunc {g : Operand} {ps : Array Tmp} {assign body : Code} {gf : FuncId} {cap : List V} {fn : Func} {c : Code} {Q : Ex → Sa → Prop} (l qn : Name) (hrd : s.rd = none) (hrs : some l ∉ rds s) (hl : lookN l s.lp = none) (hy : s.ylds l = false)
    (hg : s.get g = .fn gf cap) (hycap : V.yldsL l cap = false) (hcal : callable P gf = true) (hf : P.funcs[gf]? = some fn) (hb : fn.body = some c) (hle : (V.yld l :: cap).length ≤ fn.ntmps)
    (h : ev P (sems P) qn c (s.loopIn l fn.ntmps (.yld l :: cap) ⟨s.sv.length, ps, assign, body, none⟩) (LeftLoop P qn fn.results.toList l s Q)) : TC P p (.rangeFunc g ps assign body) s Q := by
  intro Mo m a sv w n hR
  have hrd0 : rdOf m s = none := by simp [rdOf, hrd]
  rw [hrd0]
  refine wpIn_rangeFunc (fun fnid _ => ?_)
  have hgv := hR.operand g
  rw [hg] at hgv
  obtain ⟨cs, e, hs, hrep⟩ := hgv.fn_inv
  have he := run_enterLoop_outer (P := P) (w := w) fnid a.tmps ps assign body
  generalize hw1 : ((w.alloc (.deferred (some []))).alloc (.loop { state := .ready, pending := none, fn := fnid, tmps := a.tmps, params := ps, assign, body, defers := w.heap.size })) = w1 at he
  have hbl : Below w.heap.size w w1 := by rw [← hw1]; exact ((Below.refl _ _).alloc (Nat.le_refl _) _).alloc (by simp) _
  have hB : w1.heap[w.heap.size]? = some (.deferred (some [])) := by
    rw [← hw1]
    have h1 := World.alloc_heap_new w (.deferred (some []))
    exact heap_below (below_alloc' _ _) h1
  have hN : w1.heap[w.heap.size + 1]? = some (.loop { state := .ready, pending := none, fn := fnid, tmps := a.tmps, params := ps, assign, body, defers := w.heap.size }) := by
    rw [← hw1]
    have h1 := World.alloc_heap_new (w.alloc (.deferred (some []))) (.loop { state := .ready, pending := none, fn := fnid, tmps := a.tmps, params := ps, assign, body, defers := w.heap.size })
    simpa using h1
  refine ⟨w.heap.size + 1, [{ target := .collected w.heap.size, args := #[] }], w1, { target := .fn (.func gf) cs, args := #[.func (.yield (w.heap.size + 1)) #[] #[]] }, w1, gf, #[.func (.yield (w.heap.size + 1)) #[] #[]] ++ cs, w1, he, ?_, fun _ _ => trivial, ?_, depth_none, ?_⟩
  · have e1 : a.eval (.const (.func (.yield (w.heap.size + 1)) #[] #[])) = .func (.yield (w.heap.size + 1)) #[] #[] := rfl
    simp [resolve, e, Deferred.ofValue, e1]
  · simp only [invoke]; exact run_callFunc hcal _
  have hyall := Sa.ylds_all hy
  have hargs : ArgsOK w1 (Tot Mo s.bx s.ow m) (m.setLp l (w.heap.size + 1)) (.yld l :: cap) (#[.func (.yield (w.heap.size + 1)) #[] #[]] ++ cs) := by
    refine ⟨by simp [hs]; omega, fun i hi => ?_⟩
    cases i with
    | zero =>
      have : (m.setLp l (w.heap.size + 1)).lp l = w.heap.size + 1 := by simp [Mp.setLp]
      simp only [List.getElem_cons_zero]
      have h0 := @RepV.yld w1 (Tot Mo s.bx s.ow m) (m.setLp l (w.heap.size + 1)) l
      rw [this] at h0
      have e2 : (#[Value.func (.yield (w.heap.size + 1)) #[] #[]] ++ cs).getD 0 undef = Value.func (.yield (w.heap.size + 1)) #[] #[] := by
        rw [Array.getD_eq_getD_getElem?, Array.getElem?_append_left (by simp)]; rfl
      rw [e2]; exact h0
    | succ i =>
      have hi' : i < cap.length := by simpa using hi
      have h0 := (hrep i hi').newLp (w' := w1) (l := l) (N := w.heap.size + 1) (fun hx => V.yldsL_lps l cap hycap (mem_lpsL hi' hx)) hbl
      simp only [List.getElem_cons_succ]
      rw [Array.getD_eq_getD_getElem?] at h0 ⊢
      rw [Array.getElem?_append_right (by simp)]
      simpa using h0
  have h0 := hR.loopIn (ps := ps) (assign := assign) (body := body) (nt := fn.ntmps) hyall hl hbl hB (Nat.le_refl _) hN (by omega) ⟨rfl, rfl, rfl, rfl, rfl, rfl⟩ hargs hle
  refine callsIn_of_wp_marks hf hb trivial ?_ rfl
  have h1 := ev_sound h Mo (m.setLp l (w.heap.size + 1)) _ _ w1 (n - 1) h0
  have hrd1 : rdOf (m.setLp l (w.heap.size + 1)) (s.loopIn l fn.ntmps (.yld l :: cap) ⟨s.sv.length, ps, assign, body, none⟩) = none := rfl
  rw [hrd1] at h1
  refine wpIn_mono h1 ?_
  rintro e a' w' ⟨ex, m', s', hex, ⟨hexx, hsvl, hlpn, hres⟩, hR', hst, _, hmk⟩
  have hmarks : ∀ d ∈ a'.defers, ∃ r, d = { target := .collected r, args := #[] } ∧ w1.heap.size ≤ r := fun d hd => by
    rcases hmk d hd with h | h
    · simp at h
    · exact h
  have hfin : LeavesInM (Wd none) (n - 1) P fn a'.tmps (rangePost (Wd none) n P (w.heap.size + 1) (CodePost Mo m s a.defers sv w Q) { a with defers := [{ target := .collected w.heap.size, args := #[] }] ++ a.defers }) a'.defers .returning w' := by
    refine leaves w1.heap.size hres a'.defers a' w' rfl hR' hmarks (fun vs cc w2 hk hR2 hv hb2 => ?_)
    split at hk
    · rename_i l0 q tl hlp
      have hl0 : l0 = l ∧ q.depth = s.sv.length ∧ lpD tl = lpD s.lp := by
        rw [hlp] at hlpn
        simp only [lpD, List.map_cons, List.cons.injEq, Prod.mk.injEq] at hlpn
        exact ⟨hlpn.1.1, hlpn.1.2, hlpn.2⟩
      obtain ⟨rfl, hqd, htl⟩ := hl0
      have hlook : lookN l0 s'.lp = some q := by rw [hlp]; simp [lookN]
      have hmlp : m'.lp l0 = w.heap.size + 1 := by
        have := hst.lpm l0 (by simp [rds, Sa.loopIn])
        rw [this]; simp [Mp.setLp]
      obtain ⟨rc, b, hx⟩ := hR2.lps l0 q hlook
      have hnb : rc.state ≠ .busy := by
        have := hx.stat
        split at this
        · rw [this.1]; decide
        · rw [this.1]; decide
        · rename_i hp; rw [hp] at hk; exact hk.elim
      have hend := run_endLoop (P := P) hx.heap hnb
      have hR3 := hR2.dropLoop (r' := { rc with state := .exhausted }) hlp (lpD_none htl.symm hl) hx.heap
      have hne : ({ s' with lp := tl } : Sa).sv ≠ [] := fun e => by simp only at e; rw [e] at hsvl; simp at hsvl
      have hdep : ∀ nm x, lookN nm ({ s' with lp := tl } : Sa).lp = some x → x.depth + 1 < ({ a with defers := { target := .collected w.heap.size, args := #[] } :: a.defers } :: sv).length := by
        intro nm x hx
        obtain ⟨q0, e1, e2⟩ := lpD_look htl hx
        rw [← e2]; exact hR.dep nm q0 e1
      have hpop := (hR3.pop hne hdep).setRd none
      obtain ⟨g, gs, hsv⟩ := List.exists_cons_of_ne_nil hne
      simp only at hsv
      have hout : ({ ({ s' with lp := tl } : Sa).pop with rd := none } : Sa) = s'.loopOut := by
        simp [Sa.pop, Sa.loopOut, hsv, hlp]
      rw [hout] at hpop
      have hsvrd := hst.svrd
      rw [hsv] at hsvrd
      simp only [Sa.loopIn, List.map_cons, List.cons.injEq] at hsvrd
      have hbx : s'.loopOut.bx = s'.bx ∧ s'.loopOut.ow = s'.ow ∧ s'.loopOut.lp = tl ∧ s'.loopOut.rd = none ∧ s'.loopOut.sv.map (·.rd) = s.sv.map (·.rd) := by
        simp only [Sa.loopOut, hsv, hlp, List.tail_cons]; exact ⟨trivial, trivial, trivial, trivial, hsvrd.2⟩
      -- the whole step
      have hstep1 : Step m s w (m.setLp l0 (w.heap.size + 1)) { s with lp := (l0, ⟨s.sv.length, ps, assign, body, none⟩) :: s.lp } w1 := by
        refine ⟨.of_below hbl, fun b o _ hm => hm, ?_, rfl, rfl, ?_⟩
        · rintro b hb ⟨nm, x, hx, rfl⟩
          simp only [lookN] at hx
          split at hx
          · rename_i e; subst e
            simp only [Mp.setLp, if_true] at hb
            omega
          · rename_i e
            refine ⟨nm, x, hx, ?_⟩
            simp only [Mp.setLp]
            rw [if_neg (Ne.symm e)]
        · intro nm hnm
          have : nm ≠ l0 := fun e => hrs (e ▸ hnm)
          simp [Mp.setLp, this]
      have hkp : Keeps w1 w2 (Mut s.bx s.ow (m.setLp l0 (w.heap.size + 1))) (LpB ((l0, ⟨s.sv.length, ps, assign, body, none⟩) :: s.lp) (m.setLp l0 (w.heap.size + 1))) := (hst.after hb2).keeps
      have hstep2 : Step (m.setLp l0 (w.heap.size + 1)) { s with lp := (l0, ⟨s.sv.length, ps, assign, body, none⟩) :: s.lp } w1 m' s'.loopOut w2 := by
        refine ⟨hkp, ?_, ?_, ?_, ?_, ?_⟩
        · rw [hbx.1, hbx.2.1]; exact hst.mt
        · rintro b hb ⟨nm, x, hx, rfl⟩
          rw [hbx.2.2.1] at hx
          refine hst.lp _ hb ⟨nm, x, ?_, rfl⟩
          rw [hlp]; simp only [lookN]
          have : nm ≠ l0 := fun e => by
            rw [e, lpD_none htl.symm hl] at hx; cases hx
          rw [if_neg (Ne.symm this)]; exact hx
        · rw [hbx.2.2.2.1, ← hrd]
        · rw [hbx.2.2.2.2]
        · intro nm hnm
          refine hst.lpm nm ?_
          simp only [rds, Sa.loopIn, List.map_cons, List.mem_cons] at hnm ⊢
          rcases hnm with h | h
          · rw [hrd] at h; cases h
          · exact .inr (.inr h)
      have hstep := (hstep1.trans hstep2).after (below_putObj (B := w.heap.size) (r := m'.lp l0) (o := .loop { rc with state := .exhausted }) (by rw [hmlp]; omega))
      have hrdo : rdOf m' s'.loopOut = rdOf m s := by simp [rdOf, hbx.2.2.2.1, hrd]
      have hnm : NewMarks a.defers w ({ target := .collected w.heap.size, args := #[] } :: a.defers) := fun d hd => by
        rcases List.mem_cons.1 hd with rfl | hd
        · exact .inr ⟨_, rfl, Nat.le_refl _⟩
        · exact .inl hd
      generalize w2.putObj (m'.lp l0) (.loop { rc with state := .exhausted }) = w4 at hend hpop hstep
      refine ⟨rc.pending, w4, by rw [← hmlp]; exact hend, ?_⟩
      have hstat := hx.stat
      split at hk
      · rename_i hp
        rw [hp] at hstat
        rw [hstat.2]
        exact ⟨.norm, m', s'.loopOut, rfl, hk, hpop, hstep, hrdo, hnm⟩
      · exact hk.elim
      · rename_i j hp
        rw [hp] at hstat
        rw [hstat.2]
        have h9 := ev_sound hk Mo m' _ sv _ n hpop
        have hrd9 : rdOf m' s'.loopOut = none := by rw [hrdo, hrd0]
        rw [hrd9] at h9
        exact wpIn_mono h9 (fun e a2 w2 hp => CodePost.step hstep hrdo hnm hp)
    · exact hk.elim
  cases e with
  | normal => cases hex; exact hfin
  | ret => cases hex; exact hfin
  | exit i => cases hex; exact hexx.elim
  | goto l => cases hex
  | panic c => cases hex
  | outgrown => cases hex
end Go.Ab
