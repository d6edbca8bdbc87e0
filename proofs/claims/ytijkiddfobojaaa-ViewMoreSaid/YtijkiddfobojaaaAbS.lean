import Derived.Test.YtijkiddfobojaaaAbG
import Derived.ProofKit
import Derived.OpenShut
/-! A function that answers something of a kind: which one is told only as far as a law needs it. -/
namespace Go.Ab
set_option linter.all false
open Go Go.RowKit
def Som {ρ : Type} (R G : ρ → Prop) : Prop := ∃ r, R r ∧ G r
section
variable {ρ : Type} {R : ρ → Prop} {P : Program} {p : Name} {s : Sa}
theorem Som.imp {H G : ρ → Prop} (h : ∀ r, H r → G r) (x : Som R H) : Som R G := let ⟨r, a, b⟩ := x; ⟨r, a, h r b⟩
theorem Som.case {b : Bool} {x y : ρ → Prop} (h1 : b = true → Som R x) (h2 : b = false → Som R y) : Som R (fun r => CaseB b (x r) (y r)) := by
  cases b with
  | true => exact (h1 rfl).imp fun r h => ⟨fun _ => h, fun e => (nomatch e)⟩
  | false => exact (h2 rfl).imp fun r h => ⟨fun e => (nomatch e), fun _ => h⟩
theorem Som.and {A : Prop} {x : ρ → Prop} (a : A) (h : Som R x) : Som R (fun r => A ∧ x r) := h.imp fun _ h => ⟨a, h⟩
theorem Som.get {α : Type} {l : List α} {i : Nat} {x : ρ → α → Prop} (hl : i < l.length) (h : ∀ y, l[i]? = some y → Som R (fun r => x r y)) : Som R (fun r => ∀ y, l[i]? = some y → x r y) := by
  have e := List.getElem?_eq_getElem hl
  exact (h _ e).imp fun r hr y hy => by rw [e] at hy; cases hy; exact hr
theorem Som.got {α : Type} {l : List α} {i : Nat} {x : ρ → α → Prop} {y : α} (e : l[i]? = some y) (h : Som R (fun r => x r y)) : Som R (fun r => ∀ y, l[i]? = some y → x r y) :=
  h.imp fun r hr z hz => by rw [e] at hz; cases hz; exact hr
theorem Som.getw {α : Type} {l : List α} {i : Nat} {x : ρ → α → Prop} {W : α → Prop} (hw : ∀ y ∈ l, W y) (hl : i < l.length) (h : ∀ y, l[i]? = some y → W y → Som R (fun r => x r y)) : Som R (fun r => ∀ y, l[i]? = some y → x r y) :=
  Som.get hl fun y e => h y e (hw y (List.mem_of_getElem? e))
theorem Som.done {G : ρ → Prop} (r : ρ) (h : R r) (g : G r) : Som R G := ⟨r, h, g⟩
theorem Som.call {σ : Type} {R' : σ → Prop} {f : FuncId} {args : List V} {ds : List D} {out : σ → List D} {k : ρ → V → Sa → Prop} (hf : Som R' (fun r' => PureOK P f ds (out r'))) (hd : toDs V.toD args = some ds)
    (h : ∀ r', R' r' → Som R (fun r => k r (mkRes ((out r').map .d)) s)) : Som R (fun r => TCall P p f args s (k r)) := by
  obtain ⟨r', h1, h2⟩ := hf
  exact (h r' h1).imp fun r hk => TCall_pure h2 hd hk
theorem Som.pcall {σ : Type} {R' : σ → Prop} {f : FuncId} {args : List V} {ds : List D} {out : σ → List D} {k : ρ → V → Sa → Prop} (hf : Som R' (fun r' => PureOK P f ds (out r'))) (hd : toDs V.toD args = some ds)
    (h : ∀ r', R' r' → Som R (fun r => k r (mkRes ((out r').map .d)) s)) : Som R (fun r => PCall P f args s (k r)) := by
  obtain ⟨r', h1, h2⟩ := hf
  exact (h r' h1).imp fun r hk => PCall_pure h2 hd hk
theorem Som.callx {f : FuncId} {args : List V} {ds rs : List D} {k : ρ → V → Sa → Prop} (hf : PureOK P f ds rs) (hd : toDs V.toD args = some ds)
    (h : Som R (fun r => k r (mkRes (rs.map .d)) s)) : Som R (fun r => TCall P p f args s (k r)) := h.imp fun r hk => TCall_pure hf hd hk
theorem Som.pcallx {f : FuncId} {args : List V} {ds rs : List D} {k : ρ → V → Sa → Prop} (hf : PureOK P f ds rs) (hd : toDs V.toD args = some ds)
    (h : Som R (fun r => k r (mkRes (rs.map .d)) s)) : Som R (fun r => PCall P f args s (k r)) := h.imp fun r hk => PCall_pure hf hd hk
theorem Som.draw {id : Nat} {ops : Array Oper} {Q : ρ → Ex → Sa → Prop} (plan : List Seg) (hm : P.follows .mixedOrders = true) (hp : planOK ops [] plan = true) (h : Som R (fun r => evPlan P p ops plan s (Q r .norm))) :
    Som R (fun r => TC P p (.region id ops true) s (Q r)) := h.imp fun r hk => TC_draw plan hm hp hk
theorem Som.body {f : FuncId} {fn : Func} {c : Code} {ds : List D} {out : ρ → List D} (q : Name) (hf : P.funcs[f]? = some fn) (hb : fn.body = some c) (hle : ds.length ≤ fn.ntmps) (hwf : D.wfL ds → Som R (fun r => ev P (sems P) q c (s0 fn.ntmps ds) (Out P fn.results.toList (out r)))) (h0 : ¬ D.wfL ds → ∃ r, R r) :
    Som R (fun r => PureOK P f ds (out r)) := by
  by_cases h : D.wfL ds
  · exact (hwf h).imp fun r hr => PureOK.of_body' q hf hb hle fun _ => hr
  · obtain ⟨r, hr⟩ := h0 h
    refine ⟨r, hr, PureOK.of_body' q hf hb hle fun h' => absurd h' h⟩
/-- Behind one turn. -/
def LoopE {ι : Type} (S : ι → Sa) (T : ι → Prop) (Q : Ex → Sa → Prop) : Ex → Sa → Prop := fun e s' => match e with | .norm => ∃ j, Wk s' (S j) ∧ T j | e => Q e s'
@[go_sem] theorem LoopE_exit {ι : Type} {S : ι → Sa} {T : ι → Prop} {Q : Ex → Sa → Prop} {s : Sa} {x : Nat} : LoopE S T Q (.exit x) s = Q (.exit x) s := rfl
@[go_sem] theorem LoopE_ret {ι : Type} {S : ι → Sa} {T : ι → Prop} {Q : Ex → Sa → Prop} {s : Sa} : LoopE S T Q .ret s = Q .ret s := rfl
theorem Som.turn {ι : Type} {S : ι → Sa} {T : ρ → ι → Prop} {Q : ρ → Ex → Sa → Prop} (j : ι) (hw : Wk s (S j)) (hT : Som R (fun r => T r j)) : Som R (fun r => LoopE S (T r) (Q r) .norm s) := hT.imp fun r h => ⟨j, hw, h⟩
/-- **A loop: a family of states, a measure.** -/
theorem TC_loopT {ι : Type} (S : ι → Sa) (μ : ι → Nat) {b : Code} {Q : Ex → Sa → Prop}
    (h : ∀ i, TC P p b (S i) (fun e s' => match e with | .norm => ∃ j, Wk s' (S j) ∧ μ j < μ i | e => Q e s')) (i : ι) : TC P p (.loop b) (S i) Q := by
  intro Mo m a sv w n hR
  refine wpIn_loop_ix (fun j a' w' => ∃ m', Rel Mo m' (S j) (a' :: sv) w' ∧ Step m (S i) w m' (S j) w' ∧ rdOf m' (S j) = rdOf m (S i) ∧ NewMarks a.defers w a'.defers) μ ?_ i a w ⟨m, hR, Step.refl _ _ _, rfl, .refl⟩
  rintro j a1 w1 ⟨m1, hR1, hst1, hrd1, hmk1⟩
  have h1 := (h j) Mo m1 a1 sv w1 n hR1
  rw [hrd1] at h1
  refine wpIn_mono h1 ?_
  rintro e a2 w2 ⟨ex, m2, s2, he, hq, hR2, hst2, hrd2, hmk2⟩
  have hmk : NewMarks a.defers w a2.defers := fun d hd => by
    rcases hmk2 d hd with h | ⟨r, e, hr⟩
    · exact hmk1 d h
    · exact .inr ⟨r, e, Nat.le_trans hst1.keeps.size hr⟩
  cases e with
  | normal =>
    cases he
    obtain ⟨j', hw, hlt⟩ := hq
    obtain ⟨m3, hR3, hst3, hrd3⟩ := hw Mo m2 _ w2 hR2
    exact ⟨j', ⟨m3, hR3, (hst1.trans hst2).trans hst3, (hrd3.trans hrd2).trans hrd1, hmk⟩, hlt⟩
  | exit i => cases he; exact ⟨_, m2, s2, rfl, hq, hR2, hst1.trans hst2, hrd2.trans hrd1, hmk⟩
  | ret => cases he; exact ⟨_, m2, s2, rfl, hq, hR2, hst1.trans hst2, hrd2.trans hrd1, hmk⟩
  | goto l => cases he
  | panic c => cases he
  | outgrown => cases he
def fuelT {ι : Type} (P : Program) (p : Name) (b : Code) (S : ι → Sa) (Q : Ex → Sa → Prop) : Nat → ι → Prop
  | 0, _ => False
  | n + 1, i => TC P p b (S i) (LoopE S (fuelT P p b S Q n) Q)
/-- **A loop.** -/
theorem Som.loop {ι : Type} (S : ι → Sa) (I : ι → Prop) (μ : ι → Nat) (i : ι) {b : Code} {Q : ρ → Ex → Sa → Prop} (hw : Wk s (S i)) (hi : I i)
    (h : ∀ (T : ρ → ι → Prop) i, I i → (∀ j, I j → μ j < μ i → Som R (fun r => T r j)) → Som R (fun r => ev P (sems P) p b (S i) (LoopE S (T r) (Q r)))) : Som R (fun r => TC P p (.loop b) s (Q r)) := by
  have key : ∀ n i, I i → μ i < n → Som R (fun r => fuelT P p b S (Q r) n i) := by
    intro n
    induction n with
    | zero => intro i _ hi; omega
    | succ n ih => intro i hI hi; exact (h (fun r j => fuelT P p b S (Q r) n j) i hI (fun j hI hj => ih j hI (by omega))).imp fun r hr => ev_sound hr
  refine (key (μ i + 1) i hi (by omega)).imp fun r hr => ?_
  refine TC.weaken hw (TC_loopT (fun x : { x : Nat × ι // fuelT P p b S (Q r) x.1 x.2 } => S x.1.2) (fun x => x.1.1) ?_ ⟨(μ i + 1, i), hr⟩)
  rintro ⟨⟨n, j⟩, hj⟩
  cases n with
  | zero => exact hj.elim
  | succ n =>
    refine TC.mono hj ?_
    intro e s' hx
    cases e with
    | norm =>
      obtain ⟨j', h1, h2⟩ := hx
      exact ⟨⟨(n, j'), h2⟩, h1, by simp⟩
    | exit x => exact hx
    | ret => exact hx
/-- A loop: the family tells slots and variables alone; the rest stays. -/
theorem Som.loopL {ι : Type} (F : ι → List (Nat × V) × List (Name × V)) (I : ι → Prop) (μ : ι → Nat) (i : ι) {b : Code} {Q : ρ → Ex → Sa → Prop} (hw : Wk s { s with ts := (F i).1, bx := (F i).2 }) (hi : I i)
    (h : ∀ (T : ρ → ι → Prop) i, I i → (∀ j, I j → μ j < μ i → Som R (fun r => T r j)) → Som R (fun r => ev P (sems P) p b { s with ts := (F i).1, bx := (F i).2 } (LoopE (fun i => { s with ts := (F i).1, bx := (F i).2 }) (T r) (Q r)))) : Som R (fun r => TC P p (.loop b) s (Q r)) :=
  Som.loop (fun i => { s with ts := (F i).1, bx := (F i).2 }) I μ i hw hi h
theorem PureOK.of_som {f : FuncId} {ds : List D} {out : ρ → List D} {v : ρ} (h : Som (fun r => r = v) (fun r => PureOK P f ds (out r))) : PureOK P f ds (out v) := by
  obtain ⟨r, rfl, h⟩ := h; exact h
end
end Go.Ab
/-! Tools for such functions. -/
namespace Go.Ab
set_option linter.all false
open Go Go.RowKit
abbrev WfO (o : XObject) : Prop := o.label.length ≤ 9223372036854775807 ∧ o.links.length ≤ 9223372036854775807 ∧ o.data.length ≤ 9223372036854775807 ∧ o.maps.length ≤ 9223372036854775807 ∧ o.in'.length ≤ 9223372036854775807 ∧ o.out.length ≤ 9223372036854775807 ∧
  o.thread.clear.length ≤ 9223372036854775807 ∧ o.thread.alerts.length ≤ 9223372036854775807 ∧ (o.thread.labs 0).length ≤ 9223372036854775807 ∧ (o.thread.labs 1).length ≤ 9223372036854775807 ∧ (o.thread.labs 2).length ≤ 9223372036854775807 ∧ (o.thread.labs 3).length ≤ 9223372036854775807 ∧
  o.gate.grant.length ≤ 9223372036854775807 ∧ o.gate.clear.length ≤ 9223372036854775807 ∧ (-9223372036854775808 ≤ o.quota ∧ o.quota ≤ 9223372036854775807) ∧ (0 ≤ o.id ∧ o.id ≤ 18446744073709551615) ∧ (XObject.enc o).wf
theorem XObject.wfs {o : XObject} (h : (XObject.enc o).wf) : WfO o := by
  have h0 := h
  simp only [XObject.enc, D.wf, D.wfL, wf_encL, wf_i, wf_u] at h0
  simp only [okLeaf, inR, decide_eq_true_eq] at h0
  refine ⟨h0.2.2.1.1, ?_, ?_, ?_, ?_, ?_, ?_, ?_, ?_, ?_, ?_, ?_, ?_, ?_, ?_, ?_, h⟩ <;> simp only [h0, and_self, true_and]
theorem WfO.wf {o : XObject} (h : WfO o) : (XObject.enc o).wf := h.2.2.2.2.2.2.2.2.2.2.2.2.2.2.2.2
theorem XObject.wfz : (XObject.enc XObject.zero).wf := by
  simp only [XObject.enc, D.wf, D.wfL, wf_encL, XObject.zero, XThread.zero, XGate.zero, XRef.zero, XWait.zero, XSpan.zero]
  simp [okLeaf, inR]
theorem XWorld.wfs {w : XWorld} (h : (XWorld.enc w).wf) : w.objects.length ≤ 9223372036854775807 ∧ ∀ o ∈ w.objects, WfO o := by
  simp only [XWorld.enc, D.wf, D.wfL, wf_encL] at h
  exact ⟨h.2.2.2.1.1, fun o ho => XObject.wfs (h.2.2.2.1.2 o ho)⟩
abbrev WfT (t : XThread) : Prop := t.clear.length ≤ 9223372036854775807 ∧ t.alerts.length ≤ 9223372036854775807 ∧ (t.labs 0).length ≤ 9223372036854775807 ∧ (t.labs 1).length ≤ 9223372036854775807 ∧ (t.labs 2).length ≤ 9223372036854775807 ∧ (t.labs 3).length ≤ 9223372036854775807
theorem XThread.wfs {t : XThread} (h : (XThread.enc t).wf) : WfT t := by
  simp only [XThread.enc, D.wf, D.wfL, wf_encL] at h
  refine ⟨?_, ?_, ?_, ?_, ?_, ?_⟩ <;> simp only [h, and_self]
def funOf {α : Type} [Inhabited α] {n : Nat} (l : List α) (i : Fin n) : α := l.getD i.1 default
@[go_sem] theorem XObject.fold {a0 : Int} {a1 : Int} {a2 : List XPair} {a3 : Int} {a4 : Bool} {a5 : List Int} {a6 : List Int} {a7 : List XPagesReach} {a8 : Int} {a9 : Int} {a10 : Int} {a11 : Int} {a12 : Int} {a13 : Int} {a14 : Int} {a15 : Int} {a16 : Int} {a17 : Int} {a18 : Int} {a19 : Int} {a20 : Int} {a21 : Int} {a22 : Int} {a23 : Int} {a24 : Int} {a25 : List XPair} {a26 : Int} {a27 : Int} {a28 : Int} {a29 : Int} {a30 : Int} {a31 : Int} {a32 : Int} {a33 : Int} {a34 : Int} {a35 : Bool} {a36 : List Int} {a37 : Int} {a38 : Int} {a39 : List XPair} {a40 : List XPair} {a41 : List XPair} {a42 : List XPair} {a43 : List XPair} {a44 : List XPair} {a45 : Int} {a46 : Int} {a47 : Int} {a48 : Int} {a49 : List Int} {a50 : List Int} : D.agg [D.u a0, D.i a1, encL XPair.enc a2, D.i a3, D.b a4, encL D.u a5, encL D.u a6, encL XPagesReach.enc a7, D.u a8, D.u a9, D.u a10, D.u a11, D.u a12, D.u a13, D.u a14, D.u a15, D.u a16, D.u a17, D.u a18, D.u a19, D.u a20, D.u a21, D.u a22, D.u a23, D.u a24, encL XPair.enc a25, D.u a26, D.u a27, D.u a28, D.u a29, D.i a30, D.u a31, D.u a32, D.u a33, D.u a34, D.b a35, encL D.u a36, D.u a37, D.u a38, encL XPair.enc a39, encL XPair.enc a40, encL XPair.enc a41, encL XPair.enc a42, encL XPair.enc a43, encL XPair.enc a44, D.u a45, D.u a46, D.u a47, D.u a48, encL D.u a49, encL D.u a50] = XObject.enc ⟨a0, a1, a2, a3, a4, a5, a6, a7, ⟨(funOf [a8, a9, a10, a11, a12, a13, a14, a15, a16, a17, a18, a19, a20, a21, a22, a23]), a24, a25, ⟨a26, a27⟩, a28, a29, a30, ⟨⟨a31, a32⟩, a33, a34, a35⟩, a36, ⟨a37, a38⟩, (funOf [a39, a40, a41, a42])⟩, ⟨a43, a44, ⟨a45, a46⟩, a47, a48⟩, a49, a50⟩ := rfl
@[go_sem] theorem XThread.fold {a0 : Int} {a1 : Int} {a2 : Int} {a3 : Int} {a4 : Int} {a5 : Int} {a6 : Int} {a7 : Int} {a8 : Int} {a9 : Int} {a10 : Int} {a11 : Int} {a12 : Int} {a13 : Int} {a14 : Int} {a15 : Int} {a16 : Int} {a17 : List XPair} {a18 : Int} {a19 : Int} {a20 : Int} {a21 : Int} {a22 : Int} {a23 : Int} {a24 : Int} {a25 : Int} {a26 : Int} {a27 : Bool} {a28 : List Int} {a29 : Int} {a30 : Int} {a31 : List XPair} {a32 : List XPair} {a33 : List XPair} {a34 : List XPair} : D.agg [D.u a0, D.u a1, D.u a2, D.u a3, D.u a4, D.u a5, D.u a6, D.u a7, D.u a8, D.u a9, D.u a10, D.u a11, D.u a12, D.u a13, D.u a14, D.u a15, D.u a16, encL XPair.enc a17, D.u a18, D.u a19, D.u a20, D.u a21, D.i a22, D.u a23, D.u a24, D.u a25, D.u a26, D.b a27, encL D.u a28, D.u a29, D.u a30, encL XPair.enc a31, encL XPair.enc a32, encL XPair.enc a33, encL XPair.enc a34] = XThread.enc ⟨(funOf [a0, a1, a2, a3, a4, a5, a6, a7, a8, a9, a10, a11, a12, a13, a14, a15]), a16, a17, ⟨a18, a19⟩, a20, a21, a22, ⟨⟨a23, a24⟩, a25, a26, a27⟩, a28, ⟨a29, a30⟩, (funOf [a31, a32, a33, a34])⟩ := rfl
@[go_sem] theorem XGate.fold {a0 : List XPair} {a1 : List XPair} {a2 : Int} {a3 : Int} {a4 : Int} {a5 : Int} : D.agg [encL XPair.enc a0, encL XPair.enc a1, D.u a2, D.u a3, D.u a4, D.u a5] = XGate.enc ⟨a0, a1, ⟨a2, a3⟩, a4, a5⟩ := rfl
@[go_sem high] theorem XObject.fold0 : D.agg [D.u 0, D.i 0, encL XPair.enc [], D.i 0, D.b false, encL D.u [], encL D.u [], encL XPagesReach.enc [], D.u 0, D.u 0, D.u 0, D.u 0, D.u 0, D.u 0, D.u 0, D.u 0, D.u 0, D.u 0, D.u 0, D.u 0, D.u 0, D.u 0, D.u 0, D.u 0, D.u 0, encL XPair.enc [], D.u 0, D.u 0, D.u 0, D.u 0, D.i 0, D.u 0, D.u 0, D.u 0, D.u 0, D.b false, encL D.u [], D.u 0, D.u 0, encL XPair.enc [], encL XPair.enc [], encL XPair.enc [], encL XPair.enc [], encL XPair.enc [], encL XPair.enc [], D.u 0, D.u 0, D.u 0, D.u 0, encL D.u [], encL D.u []] = XObject.enc XObject.zero := rfl
@[go_sem] theorem XObject.foldn {a0 : Int} {a1 : Int} {a3 : Int} {a4 : Bool} {a5 : List Int} {a6 : List Int} {a7 : List XPagesReach} {a8 : Int} {a9 : Int} {a10 : Int} {a11 : Int} {a12 : Int} {a13 : Int} {a14 : Int} {a15 : Int} {a16 : Int} {a17 : Int} {a18 : Int} {a19 : Int} {a20 : Int} {a21 : Int} {a22 : Int} {a23 : Int} {a24 : Int} {a25 : List XPair} {a26 : Int} {a27 : Int} {a28 : Int} {a29 : Int} {a30 : Int} {a31 : Int} {a32 : Int} {a33 : Int} {a34 : Int} {a35 : Bool} {a36 : List Int} {a37 : Int} {a38 : Int} {a39 : List XPair} {a40 : List XPair} {a41 : List XPair} {a42 : List XPair} {a43 : List XPair} {a44 : List XPair} {a45 : Int} {a46 : Int} {a47 : Int} {a48 : Int} {a49 : List Int} {a50 : List Int} : D.agg [D.u a0, D.i a1, D.sl [], D.i a3, D.b a4, encL D.u a5, encL D.u a6, encL XPagesReach.enc a7, D.u a8, D.u a9, D.u a10, D.u a11, D.u a12, D.u a13, D.u a14, D.u a15, D.u a16, D.u a17, D.u a18, D.u a19, D.u a20, D.u a21, D.u a22, D.u a23, D.u a24, encL XPair.enc a25, D.u a26, D.u a27, D.u a28, D.u a29, D.i a30, D.u a31, D.u a32, D.u a33, D.u a34, D.b a35, encL D.u a36, D.u a37, D.u a38, encL XPair.enc a39, encL XPair.enc a40, encL XPair.enc a41, encL XPair.enc a42, encL XPair.enc a43, encL XPair.enc a44, D.u a45, D.u a46, D.u a47, D.u a48, encL D.u a49, encL D.u a50] = XObject.enc ⟨a0, a1, [], a3, a4, a5, a6, a7, ⟨(funOf [a8, a9, a10, a11, a12, a13, a14, a15, a16, a17, a18, a19, a20, a21, a22, a23]), a24, a25, ⟨a26, a27⟩, a28, a29, a30, ⟨⟨a31, a32⟩, a33, a34, a35⟩, a36, ⟨a37, a38⟩, (funOf [a39, a40, a41, a42])⟩, ⟨a43, a44, ⟨a45, a46⟩, a47, a48⟩, a49, a50⟩ := rfl
@[go_sem] theorem XWorld.fold {t k r : Int} {l : List XObject} : D.agg [D.i t, D.u k, D.u r, encL XObject.enc l] = XWorld.enc ⟨t, k, r, l⟩ := rfl
@[go_sem] theorem XWorld.vcells {w : XWorld} : (V.d (XWorld.enc w)).cells = [.d (D.i w.time), .d (D.u w.key), .d (D.u w.root), .d (encL XObject.enc w.objects)] := rfl
@[go_sem] theorem XWorld.fold' {t k r : Int} {l : List XObject} : D.agg [D.i t, D.u k, D.u r, D.sl (List.map XObject.enc l)] = XWorld.enc ⟨t, k, r, l⟩ := rfl
def AllT (ts : List (Nat × V)) : List (Nat × V) → Prop
  | [] => True
  | x :: l => lkT x.1 ts = x.2 ∧ AllT ts l
def AllB (bx : List (Name × V)) : List (Name × V) → Prop
  | [] => True
  | x :: l => lookN x.1 bx = some x.2 ∧ AllB bx l
theorem AllT.nil {ts : List (Nat × V)} : AllT ts [] := trivial
theorem AllT.cons {ts l : List (Nat × V)} {t : Nat} {v : V} (h : lkT t ts = v) (hl : AllT ts l) : AllT ts ((t, v) :: l) := ⟨h, hl⟩
theorem AllB.nil {ts : List (Name × V)} : AllB ts [] := trivial
theorem AllB.cons {ts l : List (Name × V)} {t : Name} {v : V} (h : lookN t ts = some v) (hl : AllB ts l) : AllB ts ((t, v) :: l) := ⟨h, hl⟩
theorem AllT.all {ts : List (Nat × V)} : ∀ {l : List (Nat × V)}, AllT ts l → ∀ x ∈ l, lkT x.1 ts = x.2 := by
  intro l
  induction l with
  | nil => intro _ x hx; cases hx
  | cons y l ih =>
    intro h x hx
    rcases List.mem_cons.1 hx with rfl | hx
    · exact h.1
    · exact ih h.2 x hx
theorem AllB.all {ts : List (Name × V)} : ∀ {l : List (Name × V)}, AllB ts l → ∀ x ∈ l, lookN x.1 ts = some x.2 := by
  intro l
  induction l with
  | nil => intro _ x hx; cases hx
  | cons y l ih =>
    intro h x hx
    rcases List.mem_cons.1 hx with rfl | hx
    · exact h.1
    · exact ih h.2 x hx
theorem Wk.all {s s' : Sa} (hrd : s'.rd = s.rd) (hn : s'.n = s.n) (hlp : s'.lp = s.lp) (hts : AllT s.ts s'.ts) (hsv : s'.sv = s.sv) (hbx : AllB s.bx s'.bx) (how : ∀ i ∈ s'.ow, i ∈ s.ow) : Wk s s' :=
  Wk.lists hrd hn hlp hts.all hsv hbx.all how
theorem own_snoc {α : Type} {i : Name} {n : Nat} {f : α → D} {l : List α} {a : α} : V.own i n (l.map f ++ [f a]) = V.own i n ((l ++ [a]).map f) := by simp
theorem own_snocP {i : Name} {n : Nat} {l : List XPair} {a b : Int} : V.own i n (l.map XPair.enc ++ [.agg [D.u a, D.i b]]) = V.own i n ((l ++ [(⟨a, b⟩ : XPair)]).map XPair.enc) := by simp [XPair.enc]
theorem toNat_pred {k : Nat} : ((k : Int) - 1).toNat = k - 1 := by omega
@[go_sem] theorem takeD_one {n : Nat} {c : D} : takeD false n [c] = .d c := rfl
theorem wrap_u64n {k : Nat} (h : k < 18446744073709551615) : IntKind.u64.wrap ((k : Int) + 1) = (k : Int) + 1 := by rw [wrap_u64]; omega
@[go_sem] theorem append_cons_ {α : Type} {a : α} {l m : List α} : List.append (a :: l) m = a :: List.append l m := rfl
@[go_sem] theorem append_nil_ {α : Type} {m : List α} : List.append [] m = m := rfl
theorem wrap_pred {n : Nat} (h : n ≤ 9223372036854775807) : IntKind.i64.wrap ((n : Int) - 1) = (n : Int) - 1 := wrap_i64 (by omega) (by omega)
theorem snocX {l : List XPair} {x : XPair} : l.map XPair.enc ++ [x.enc] = (l ++ [x]).map XPair.enc := by simp
theorem snocP {l : List XPair} {a b : Int} : l.map XPair.enc ++ [D.agg [D.u a, D.i b]] = (l ++ [(⟨a, b⟩ : XPair)]).map XPair.enc := by simp [XPair.enc]
theorem own_map {α : Type} {i : Name} {n : Nat} {f : α → D} {l : List α} : V.own i n (l.map f) = V.own i n (l.map f) := rfl
theorem sl_encL {α : Type} {f : α → D} (l : List α) : D.sl (l.map f) = encL f l := rfl
theorem lab_of {o : XObject} {l : List XObject} {n : Nat} (h : (XObject.enc o).wf ∧ (o ∈ l ∨ o = XObject.zero)) (hw : ∀ x ∈ l, x.label.length ≤ n) : o.label.length ≤ n := by
  rcases h.2 with h | h
  · exact hw _ h
  · rw [h]; simp [XObject.zero]
theorem lab_in {x : XObject} {l : List XObject} {n k : Nat} (hw : ∀ x ∈ l, x.label.length ≤ n) (h : l[k]? = some x) : x.label.length ≤ n := hw _ (List.mem_of_getElem? h)
theorem all_snoc {α : Type} {p : α → Prop} {l : List α} {k : Nat} {x : α} (h : ∀ o ∈ l.take k, p o) (hx : l[k]? = some x) (hp : p x) : ∀ o ∈ l.take (k + 1), p o := by
  rw [List.take_succ, hx]
  intro o ho
  rcases List.mem_append.1 ho with ho | ho
  · exact h o ho
  · simp at ho; subst ho; exact hp
/-- A loop: the family tells slots and variables alone; the rest stays. -/
theorem TC_whileL {P : Program} {p : Name} {s : Sa} {ι : Type} (F : ι → List (Nat × V) × List (Name × V)) (μ : ι → Nat) (i : ι) {b : Code} {Q : Ex → Sa → Prop} (hw : Wk s { s with ts := (F i).1, bx := (F i).2 })
    (h : ∀ i, ev P (sems P) p b { s with ts := (F i).1, bx := (F i).2 } (LoopK (fun i => { s with ts := (F i).1, bx := (F i).2 }) μ i Q)) : TC P p (.loop b) s Q := TC_while (fun i => { s with ts := (F i).1, bx := (F i).2 }) μ i hw h
@[go_sem] theorem storeBox_v {x y : Value} : storeBox 0 (.d (.v x)) (.d (.v y)) = .d (.v x) := rfl
@[go_sem] theorem storeBox_1 {x c : V} (hx : x.cells.length = 1) (hc : c.cells.length = 1) : storeBox 0 x c = x := by unfold storeBox; rw [if_pos ⟨rfl, by rw [hx, hc]⟩]
@[go_sem] theorem loadBox_v {x : Value} : loadBox false 0 1 (.d (.v x)) = .d (.v x) := rfl
@[go_sem] theorem loadBox_sl {x : List D} : loadBox false 0 1 (.d (.sl x)) = .d (.sl x) := rfl
@[go_sem] theorem loadBox_encL {α : Type} {f : α → D} {l : List α} : loadBox false 0 1 (.d (encL f l)) = .d (encL f l) := rfl
@[go_sem] theorem loadBox_own {i : Name} {n : Nat} {xs : List D} : loadBox false 0 1 (.own i n xs) = .own i n xs := rfl
@[go_sem] theorem loadBox_fn {f : FuncId} {c : List V} : loadBox false 0 1 (.fn f c) = .fn f c := rfl
@[go_sem] theorem loadBox_nil : loadBox false 0 1 .nil = .nil := rfl
@[go_sem] theorem take_map_len {α β : Type} {f : α → β} {l : List α} : (List.map f l).take l.length = List.map f l := List.take_of_length_le (by rw [List.length_map]; exact Nat.le_refl _)
@[go_sem] theorem drop_encL {α : Type} {f : α → D} {l : List α} {n : Nat} : D.sl ((List.map f l).drop n) = encL f (l.drop n) := by rw [encL, List.map_drop]
@[go_sem] theorem XLabelLevels.fold {a b : Int} : D.agg [D.i a, D.i b] = XLabelLevels.enc ⟨a, b⟩ := rfl
@[go_sem] theorem all_pairs {l : List XPair} : (∀ x ∈ List.map XPair.enc l, x.cells.length = 2) = True := by simp [XPair.len]
@[go_sem] theorem XObject.st_own {i : Name} {n : Nat} {x : XObject} : loadBox true 0 51 (storeBox 2 (.own i n []) (.d (XObject.enc x))) = .d (XObject.enc { x with label := [] }) := rfl
@[go_sem] theorem XObject.st_own_len {i : Name} {n : Nat} {x : XObject} : (storeBox 2 (.own i n []) (.d (XObject.enc x))).cells.length = 51 := rfl
@[go_sem] theorem storeBox_agg {xs ys : List D} (h : xs.length = ys.length) : storeBox 0 (.d (.agg xs)) (.d (.agg ys)) = .d (.agg xs) := by unfold storeBox; rw [if_pos ⟨rfl, by simp [V.cells, h]⟩]
@[go_sem] theorem loadBox_agg {ds : List D} {n : Nat} (h : ds.length = n) : loadBox true 0 n (.d (.agg ds)) = .d (.agg ds) := by unfold loadBox; simp [h]
@[go_sem] theorem loadBox_part0 {ds : List D} {n : Nat} (h : ds.length ≠ n) : loadBox true 0 n (.d (.agg ds)) = .d (.agg (ds.take n)) := by unfold loadBox; simp [h]
@[go_sem] theorem loadBox_cell {ds : List D} {o n : Nat} : loadBox false o n (.d (.agg ds)) = ((ds[o]?).map V.d).getD .dead := rfl
attribute [go_sem] Option.isNone_none Option.getD_some
theorem snocO {l : List XObject} {x : XObject} : l.map XObject.enc ++ [XObject.enc x] = (l ++ [x]).map XObject.enc := by simp
@[go_sem] theorem st3 {i : Name} {n : Nat} {xs : List D} {a b c d e : D} : loadBox true 0 4 (storeBox 3 (.own i n xs) (.d (.agg [a, b, c, d, e]))) = .d (.agg [a, b, c, .sl xs]) := rfl
@[go_sem] theorem st3_len {i : Name} {n : Nat} {xs : List D} {a b c d e : D} : (storeBox 3 (.own i n xs) (.d (.agg [a, b, c, d, e]))).cells.length = 5 := rfl
attribute [go_sem] Option.getD_none
theorem own_nil {α : Type} {i : Name} {n : Nat} {f : α → D} : V.own i n [] = V.own i n (([] : List α).map f) := rfl
end Go.Ab
/-! An argument that reads as data is data of its type's shape. -/
namespace Go.Ab
set_option linter.all false
open Go Go.RowKit
inductive Sh where
  | bool
  | int (k : IntKind)
  | sl (ag : Bool) (e : Sh)
  | row (fs : List Sh)
  deriving Inhabited
mutual
def Sh.size : Sh → Nat
  | .row fs => Sh.sizeL fs
  | _ => 1
def Sh.sizeL : List Sh → Nat
  | [] => 0
  | f :: fs => f.size + Sh.sizeL fs
end
mutual
def Conf : Sh → List D → Prop
  | .bool, ds => ∃ b, ds = [.v (.bool b)]
  | .int k, ds => ∃ n, ds = [.v (.int k n)]
  | .sl ag e, ds => ∃ xs : List D, ds = [.sl xs] ∧ ∀ x ∈ xs, Conf e x.cells ∧ (ag = true → ∃ cs, x = .agg cs) ∧ (ag = false → x.cells = [x])
  | .row fs, ds => ConfL fs ds
def ConfL : List Sh → List D → Prop
  | [], ds => ds = []
  | f :: fs, ds => ∃ a b, ds = a ++ b ∧ Conf f a ∧ ConfL fs b
end
def Sh.flat : Sh → Bool
  | .row _ => false
  | _ => true
def ofFs (F : TypeId → Option Sh) (P : Program) : Nat → List Field → Option (List Sh)
  | _, [] => some []
  | o, f :: fs => match F f.type with
    | some s => if f.offset = o ∧ s.size = P.cellsOf f.type then (match ofFs F P (o + s.size) fs with | some ss => some (s :: ss) | none => none) else none
    | none => none
def Sh.ofT (P : Program) : Nat → TypeId → Option Sh
  | 0, _ => none
  | d + 1, t => match P.underlying t with
    | some .bool => some .bool
    | some (.int k) => some (.int k)
    | some (.slice e) => match Sh.ofT P d e with
      | some s => if s.size = P.cellsOf e ∧ 0 < s.size then some (.sl (!s.flat) s) else none
      | none => none
    | some (.struct fs) => match ofFs (Sh.ofT P d) P 0 fs.toList with
      | some ss => if Sh.sizeL ss = P.cellsOf t then some (.row ss) else none
      | none => none
    | some (.array n e) => match Sh.ofT P d e with
      | some s => if s.size = P.cellsOf e ∧ n * s.size = P.cellsOf t then some (.row (List.replicate n s)) else none
      | none => none
    | _ => none
/-- The cells are the data's. -/
def RepCells (w : World) (ds : List D) (cs : List Value) : Prop := ∀ i (h : i < ds.length), RepD w (fun _ _ => False) ds[i] (cs.getD i undef) ∧ leaf (cs.getD i undef) = true
theorem getD_drop {cs : List Value} {o i : Nat} : (cs.drop o).getD i undef = cs.getD (o + i) undef := by
  simp only [List.getD_eq_getElem?_getD, List.getElem?_drop]
theorem rep_append {w : World} {a b : List D} {cs : List Value} {o : Nat} (h1 : RepCells w a (cs.drop o)) (h2 : RepCells w b (cs.drop (o + a.length))) : RepCells w (a ++ b) (cs.drop o) := by
  intro i hi
  by_cases h : i < a.length
  · rw [List.getElem_append_left h]; exact h1 i h
  · have hi' : i - a.length < b.length := by simp at hi; omega
    have := h2 (i - a.length) hi'
    rw [List.getElem_append_right (by omega)]
    rw [getD_drop] at this ⊢
    rw [show o + a.length + (i - a.length) = o + i by omega] at this
    exact this
theorem cat {w : World} {cs : List Value} : ∀ (ss : List Sh) (o : Nat), (∀ j s, ss[j]? = some s → ∃ ds : List D, ds.length = s.size ∧ RepCells w ds (cs.drop (o + Sh.sizeL (ss.take j))) ∧ Conf s ds) →
    ∃ ds : List D, ds.length = Sh.sizeL ss ∧ RepCells w ds (cs.drop o) ∧ ConfL ss ds := by
  intro ss
  induction ss with
  | nil => intro o _; exact ⟨[], rfl, fun i h => by simp at h, by simp [ConfL]⟩
  | cons s ss ih =>
    intro o h
    obtain ⟨a, a1, a2, a3⟩ := h 0 s rfl
    obtain ⟨b, b1, b2, b3⟩ := ih (o + s.size) (fun j s' hj => by
      obtain ⟨ds, h1, h2, h3⟩ := h (j + 1) s' (by simpa using hj)
      refine ⟨ds, h1, ?_, h3⟩
      simp only [List.take_succ_cons, Sh.sizeL] at h2
      rw [← Nat.add_assoc] at h2; exact h2)
    simp only [List.take_zero, Sh.sizeL, Nat.add_zero] at a2
    exact ⟨a ++ b, by simp [Sh.sizeL, a1, b1], rep_append a2 (by rw [a1]; exact b2), by rw [ConfL]; exact ⟨a, b, rfl, a3, b3⟩⟩
theorem ofFs_get {F : TypeId → Option Sh} {P : Program} : ∀ (fs : List Field) (o : Nat) (ss : List Sh), ofFs F P o fs = some ss → ss.length = fs.length ∧ ∀ j s, ss[j]? = some s → ∃ f, fs[j]? = some f ∧ F f.type = some s ∧ s.size = P.cellsOf f.type ∧ f.offset = o + Sh.sizeL (ss.take j) := by
  intro fs
  induction fs with
  | nil => intro o ss h; simp [ofFs] at h; subst h; exact ⟨rfl, by simp⟩
  | cons f fs ih =>
    intro o ss h
    simp only [ofFs] at h
    split at h
    · rename_i s hs
      split at h
      · rename_i hc
        split at h
        · rename_i ss' hss
          cases h
          obtain ⟨h1, h2⟩ := ih _ _ hss
          refine ⟨by simp [h1], fun j s' hj => ?_⟩
          cases j with
          | zero => simp at hj; subst hj; exact ⟨f, rfl, hs, hc.2, by simp [Sh.sizeL, hc.1]⟩
          | succ j =>
            obtain ⟨f', k1, k2, k3, k4⟩ := h2 j s' (by simpa using hj)
            exact ⟨f', by simpa using k1, k2, k3, by rw [k4]; simp [Sh.sizeL]; omega⟩
        · cases h
      · cases h
    · cases h
theorem sizeL_rep (n : Nat) (s : Sh) : Sh.sizeL (List.replicate n s) = n * s.size := by
  induction n with
  | zero => simp [Sh.sizeL]
  | succ n ih => simp [List.replicate_succ, Sh.sizeL, ih, Nat.succ_mul, Nat.add_comm]
theorem take_rep {w : World} {ds : List D} {cs : List Value} {n : Nat} (h : RepCells w ds (cs.take n)) (hl : ds.length = (cs.take n).length) : RepCells w ds cs := by
  intro i hi
  have := h i hi
  have hin : i < n := by
    rw [hl, List.length_take] at hi; omega
  rw [List.getD_eq_getElem?_getD, List.getElem?_take_of_lt hin, ← List.getD_eq_getElem?_getD] at this
  exact this
theorem sizeL_take {ss : List Sh} {j : Nat} {s : Sh} (h : ss[j]? = some s) : Sh.sizeL (ss.take j) + s.size ≤ Sh.sizeL ss := by
  induction ss generalizing j with
  | nil => simp at h
  | cons x ss ih =>
    cases j with
    | zero => simp at h; subst h; simp [Sh.sizeL]
    | succ j => have := ih (j := j) (by simpa using h); simp only [List.take_succ_cons, Sh.sizeL]; omega
def pickD (ag : Bool) (ds : List D) : D := if ag then .agg ds else ds.headD default
theorem pickD_cells {s : Sh} {ds : List D} (h : Conf s ds) : (pickD (!s.flat) ds).cells = ds := by
  cases s with
  | bool => simp only [Conf] at h; obtain ⟨b, rfl⟩ := h; rfl
  | int k => simp only [Conf] at h; obtain ⟨b, rfl⟩ := h; rfl
  | sl ag e => simp only [Conf] at h; obtain ⟨b, rfl, _⟩ := h; rfl
  | row fs => rfl

theorem pickD_one {s : Sh} {ds : List D} (hs : s.flat = true) (h : Conf s ds) : (pickD (!s.flat) ds).cells = [pickD (!s.flat) ds] := by
  cases s with
  | bool => simp only [Conf] at h; obtain ⟨b, rfl⟩ := h; rfl
  | int k => simp only [Conf] at h; obtain ⟨b, rfl⟩ := h; rfl
  | sl ag e => simp only [Conf] at h; obtain ⟨b, rfl, _⟩ := h; rfl
  | row fs => simp [Sh.flat] at hs
theorem trod_rep {H : Type} {enc : TypeId × Value → H} {P : Program} {w : World} {spare : Nat → Bool} {held : Bool} : ∀ (dep : Nat) (t : TypeId) (sh : Sh), Sh.ofT P dep t = some sh → ∀ (fuel : Nat) (cs : List Value) (x : DataW H × List MemPlace),
    DataW.trod enc P w 0 spare held fuel t cs = some x → ∃ ds : List D, ds.length = cs.length ∧ RepCells w ds cs ∧ Conf sh ds := by
  intro dep
  induction dep with
  | zero => intro t sh h; simp [Sh.ofT] at h
  | succ dep ih =>
    intro t sh h fuel cs x hx
    simp only [Sh.ofT] at h
    split at h
    · rename_i hu
      cases h
      obtain ⟨b, rfl, _⟩ := DataW.trod_bool hu hx
      exact ⟨[.v (.bool b)], rfl, fun i hi => by
        have : i = 0 := by simpa using hi
        subst this; exact ⟨.v trivial, rfl⟩, by simp [Conf]⟩
    · rename_i k hu
      cases h
      obtain ⟨b, rfl, _, h2⟩ := DataW.trod_int hu hx
      refine ⟨[.v (.int k b)], rfl, fun i hi => ?_, by simp [Conf]⟩
      have : i = 0 := by simpa using hi
      subst this
      refine ⟨.v ?_, rfl⟩
      cases k <;> simp_all [okLeaf, inR, Lit.wf, IntKind.min, IntKind.max, IntKind.signed, IntKind.bits]
    · rename_i e hu
      split at h
      · rename_i s hs
        split at h
        · rename_i hc
          cases h
          rcases DataW.trod_slice hu hx with ⟨rfl, _⟩ | ⟨a, len, cap, elems, rest, m, rfl, rfl, _, hb, hlc, hcm, hel, helems, _⟩
          · refine ⟨[.sl []], rfl, fun i hi => ?_, by simp [Conf]⟩
            have : i = 0 := by simpa using hi
            subst this
            exact ⟨RepD.sl (xs := []) (a := none) (cap := 0) 0 0 0 (fun _ _ => undef) (by simp) (by simp) (by simp) (by simp) (by simp) (by simp), rfl⟩
          · have hE : ∀ i, ∃ p : List Value × List D, i < len → w.cells? 0 (a.add (i * P.cellsOf e)) (P.cellsOf e) = some p.1 ∧ p.2.length = p.1.length ∧ RepCells w p.2 p.1 ∧ Conf s p.2 := by
              intro i
              by_cases hi : i < len
              · have h1 := helems i hi
                rw [List.getElem?_eq_getElem (by omega)] at h1
                obtain ⟨ecs, h2, h3⟩ := Option.bind_eq_some_iff.1 h1
                obtain ⟨ds, k1, k2, k3⟩ := ih e s hs m ecs _ h3
                exact ⟨(ecs, ds), fun _ => ⟨h2, k1, k2, k3⟩⟩
              · exact ⟨([], []), fun h => absurd h hi⟩
            obtain ⟨E, hE⟩ := Classical.axiomOfChoice hE
            have hcell : ∀ i, i < len → ∀ j, j < P.cellsOf e → w.cell? ((a.add (i * P.cellsOf e)).add j) = some ((E i).1.getD j undef) ∧ (E i).1.length = P.cellsOf e := by
              intro i hi j hj
              obtain ⟨_, h2, h3⟩ := World.cells?_some (hE i hi).1
              refine ⟨?_, h2⟩
              rw [h3 j hj, List.getD_eq_getElem?_getD, List.getElem?_eq_getElem (by omega)]; rfl
            have hpos : 0 < P.cellsOf e := by omega
            have hspot : 0 < len → a.spot = none := by
              intro hl
              have h1 := (hcell 0 hl 0 hpos).1
              unfold World.cell? at h1
              split at h1
              · split at h1
                · cases h1
                · rename_i hsp
                  simp only [Addr.add] at hsp
                  simpa using hsp
              · cases h1
            refine ⟨[.sl ((List.range len).map fun i => pickD (!s.flat) (E i).2)], rfl, fun i hi => ?_, ?_⟩
            · have : i = 0 := by simpa using hi
              subst this
              refine ⟨?_, rfl⟩
              have key : ∀ i (hi : i < ((List.range len).map fun i => pickD (!s.flat) (E i).2).length), (((List.range len).map fun i => pickD (!s.flat) (E i).2)[i]).cells = (E i).2 ∧ i < len := by
                intro i hi
                have hi' : i < len := by simpa using hi
                simp only [List.getElem_map, List.getElem_range]
                exact ⟨pickD_cells (hE i hi').2.2.2, hi'⟩
              have hlen : ((List.range len).map fun i => pickD (!s.flat) (E i).2).length = len := by simp
              have := RepD.sl (w := w) (M := fun _ _ => False) (xs := (List.range len).map fun i => pickD (!s.flat) (E i).2) (a := some a) (cap := cap) (P.cellsOf e) a.block a.off (fun i j => (E i).1.getD j undef)
                (by rw [hlen]; exact hlc) (by rw [hlen]; have : maxLen = 9223372036854775807 := rfl; omega)
                (fun hne => by
                  have hl : 0 < len := by
                    rcases Nat.eq_zero_or_pos len with h0 | h0
                    · exact absurd (by simp [h0]) hne
                    · exact h0
                  have := hspot hl
                  cases a; simp_all)
                (fun i hi => by
                  obtain ⟨k1, k2⟩ := key i hi
                  rw [k1, (hE i k2).2.1, (hcell i k2 0 hpos).2])
                (fun i hi j hj => by
                  obtain ⟨k1, k2⟩ := key i hi
                  rw [k1] at hj
                  have hj' : j < P.cellsOf e := by rw [← (hcell i k2 0 hpos).2, ← (hE i k2).2.1]; exact hj
                  have h1 := (hcell i k2 j hj').1
                  refine ⟨?_, ((hE i k2).2.2.1 j hj).2, fun h => h.elim⟩
                  have hsp := hspot (by omega)
                  have e1 : (a.add (i * P.cellsOf e)).add j = ⟨a.block, a.off + i * P.cellsOf e + j, none⟩ := by
                    clear h1 hx helems hE hcell hspot key
                    obtain ⟨bl, of, sp⟩ := a
                    simp only at hsp
                    subst hsp
                    generalize i * P.cellsOf e = q
                    simp only [Addr.add]
                    by_cases q0 : q = 0 <;> by_cases j0 : j = 0 <;> simp [q0, j0] <;> omega
                  rw [← e1]; exact h1)
                (fun i hi j hj => by
                  obtain ⟨k1, k2⟩ := key i hi
                  have hj2 : j < (E i).2.length := by rw [k1] at hj; exact hj
                  have e2 : ((((List.range len).map fun i => pickD (!s.flat) (E i).2)[i]).cells)[j] = (E i).2[j] := by simp only [k1]
                  rw [e2]; exact ((hE i k2).2.2.1 j hj2).1)
              rw [hlen] at this
              exact this
            · simp only [Conf]
              refine ⟨_, rfl, fun x hx => ?_⟩
              obtain ⟨i, hi, rfl⟩ := List.mem_map.1 hx
              have hi' : i < len := by simpa using hi
              refine ⟨by rw [pickD_cells (hE i hi').2.2.2]; exact (hE i hi').2.2.2, fun hag => ⟨(E i).2, by simp [pickD, hag]⟩, fun hag => pickD_one (by simpa using hag) (hE i hi').2.2.2⟩
        · cases h
      · cases h
    · rename_i fs hu
      split at h
      · rename_i ss hss
        split at h
        · rename_i hc
          cases h
          obtain ⟨xs, m, rfl, _, hl, hxl, hfs⟩ := DataW.trod_struct hu hx
          obtain ⟨h1, h2⟩ := ofFs_get _ _ _ hss
          obtain ⟨ds, k1, k2, k3⟩ := cat (w := w) (cs := cs) ss 0 (fun j s hj => by
            obtain ⟨f, f1, f2, f3, f4⟩ := h2 j s hj
            have f1' : fs[j]? = some f := by simpa using f1
            have h3 := hfs j f f1'
            have hjl : j < xs.length := by rw [hxl]; exact (Array.getElem?_eq_some_iff.1 f1').1
            rw [List.getElem?_eq_getElem hjl] at h3
            obtain ⟨ds, d1, d2, d3⟩ := ih f.type s f2 m _ _ h3
            have hlen : ds.length = s.size := by
              rw [d1, f3, List.length_take, List.length_drop]
              have : f.offset + s.size ≤ cs.length := by
                rw [hl, ← hc, f4, Nat.zero_add]
                exact sizeL_take hj
              omega
            refine ⟨ds, hlen, ?_, d3⟩
            rw [← f4]
            exact take_rep d2 d1)
          exact ⟨ds, by rw [k1, hl, hc], by simpa using k2, by simpa [Conf] using k3⟩
        · cases h
      · cases h
    · rename_i n e hu
      split at h
      · rename_i s hs
        split at h
        · rename_i hc
          cases h
          obtain ⟨xs, m, rfl, _, hl, hxl, hfs⟩ := DataW.trod_array hu hx
          obtain ⟨ds, k1, k2, k3⟩ := cat (w := w) (cs := cs) (List.replicate n s) 0 (fun j s' hj => by
            have hjn : j < n := by
              have := (List.getElem?_eq_some_iff.1 hj).1; simpa using this
            have hss : s' = s := by
              rw [List.getElem?_replicate] at hj; simp [hjn] at hj; exact hj.symm
            subst hss
            have h3 := hfs j hjn
            rw [List.getElem?_eq_getElem (by omega)] at h3
            obtain ⟨ds, d1, d2, d3⟩ := ih e s' hs m _ _ h3
            have hoff : Sh.sizeL ((List.replicate n s').take j) = j * P.cellsOf e := by
              rw [List.take_replicate, sizeL_rep, hc.1, Nat.min_eq_left (by omega)]
            have hlen : ds.length = s'.size := by
              rw [d1, hc.1, List.length_take, List.length_drop]
              have : (j + 1) * P.cellsOf e ≤ n * P.cellsOf e := Nat.mul_le_mul_right _ hjn
              have h4 := hc.2
              rw [hc.1] at h4
              rw [Nat.succ_mul] at this
              omega
            refine ⟨ds, hlen, ?_, d3⟩
            rw [Nat.zero_add, hoff]
            exact take_rep d2 d1)
          exact ⟨ds, by rw [k1, hl, sizeL_rep, hc.2], by simpa using k2, by simpa [Conf] using k3⟩
        · cases h
      · cases h
    · cases h
theorem open_sl {H : Type} {enc : TypeId × Value → H} {P : Program} {w : World} {spare : Nat → Bool} {held : Bool} {r : Reach} {b0 dep : Nat} {t e : TypeId} {sh : Sh} {v : Value} {d : DataW H} {ps : List MemPlace}
    (hsh : Sh.ofT P dep t = some sh) (ht : P.underlying t = some (.slice e)) (hval : Value.okWide P w r b0 t v) (hd : DataW.Trod enc P w 0 spare held t v d ps) :
    ∃ x : D, Conf sh [x] ∧ RepD w (fun _ _ => False) x v := by
  obtain ⟨a, len, cap, rfl⟩ := Go.WideShapes.okWide_slice ht hval
  obtain ⟨fuel, h⟩ := hd
  obtain ⟨ds, h1, h2, h3⟩ := trod_rep dep t sh hsh fuel _ _ h
  have h1' : ds.length = 1 := by rw [h1]; rfl
  obtain ⟨x, rfl⟩ : ∃ x, ds = [x] := by
    match ds, h1' with
    | [x], _ => exact ⟨x, rfl⟩
  exact ⟨x, h3, (h2 0 (by simp)).1⟩
theorem open_struct {H : Type} {enc : TypeId × Value → H} {P : Program} {w : World} {spare : Nat → Bool} {held : Bool} {r : Reach} {b0 dep : Nat} {t : TypeId} {fs : Array Field} {sh : Sh} {v : Value} {d : DataW H} {ps : List MemPlace}
    (hsh : Sh.ofT P dep t = some sh) (ht : P.underlying t = some (.struct fs)) (hval : Value.okWide P w r b0 t v) (hd : DataW.Trod enc P w 0 spare held t v d ps) :
    ∃ ds : List D, Conf sh ds ∧ RepD w (fun _ _ => False) (.agg ds) v := by
  unfold Value.okWide at hval
  rw [ht] at hval
  obtain ⟨cs, rfl, _, _⟩ := hval
  obtain ⟨fuel, h⟩ := hd
  obtain ⟨ds, h1, h2, h3⟩ := trod_rep dep t sh hsh fuel _ _ h
  simp only [Value.cells] at h1 h2
  have e : ∀ i, cs.getD i undef = cs.toList.getD i undef := fun i => by
    simp [Array.getD_eq_getD_getElem?, List.getD_eq_getElem?_getD]
  refine ⟨ds, h3, .agg (by simp [h1]) (fun i hi => ?_) (fun i hi => ?_)⟩
  · rw [e]; exact (h2 i hi).2
  · rw [e]; exact (h2 i hi).1
end Go.Ab
