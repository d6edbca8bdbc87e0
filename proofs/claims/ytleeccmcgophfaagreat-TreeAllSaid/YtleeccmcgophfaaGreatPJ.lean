import Derived.Test.YtleeccmcgophfaaGreatPI
set_option linter.all false
namespace Go.Tx
set_option linter.unusedVariables false
set_option linter.unusedSimpArgs false
open Go Go.Ab
section
variable {P : Program} {S : Sems} {CS : Calls'} {env : List Val} {y : Sy} {s : Sa} {p : Name}
theorem InstK.argS : ∀ {xs : List SV} {vs : List V} (i : Nat), InstL env xs vs → InstK env (Tx.argS i xs) (argTs i vs)
 | [], vs, i, h => by simp only [InstL] at h; subst h; rfl
 | x :: xs, vs, i, h => by
  simp only [InstL] at h
  obtain ⟨v, vs', rfl, h2, h3⟩ := h
  exact ⟨v, _, rfl, h2, InstK.argS (i + 1) h3⟩
theorem Inst.push (h : Inst env y s) (n : Nat) {args : List SV} {vs : List V} (ha : InstL env args vs) : Inst env (y.push n args) (s.push n (argTs 0 vs)) :=
 ⟨h.g, rfl, rfl, InstK.argS 0 ha, ⟨_, _, rfl, h.rd, h.n, h.ts, h.sv⟩, h.bx, h.lp, h.ow, h.vc⟩
theorem Inst.pop (h : Inst env y s) : Inst env y.pop s.pop := by
 unfold Sy.pop Sa.pop
 have := h.sv
 cases hy : y.sv with
 | nil => rw [hy] at this; simp only [InstF] at this; rw [this]; exact h
 | cons f fs =>
  rw [hy] at this
  simp only [InstF] at this
  obtain ⟨g, l', e, e1, e2, e3, e4⟩ := this
  rw [e]
  exact ⟨h.g, e1, e2, e3, e4, h.bx, h.lp, h.ow, h.vc⟩
theorem Inst.loopIn (h : Inst env y s) (l : Name) (n : Nat) {args : List SV} {vs : List V} (ha : InstL env args vs) (q : Lp) : Inst env (y.loopIn l n args q) (s.loopIn l n vs q) :=
 ⟨h.g, rfl, rfl, InstK.argS 0 ha, ⟨_, _, rfl, rfl, h.n, h.ts, h.sv⟩, h.bx, by simp only [Sa.loopIn, Sy.loopIn, h.lp], h.ow, h.vc⟩
theorem Inst.loopOut (h : Inst env y s) : Inst env y.loopOut s.loopOut := by
 unfold Sy.loopOut Sa.loopOut
 have := h.sv
 cases hy : y.sv with
 | nil => rw [hy] at this; simp only [InstF] at this; rw [this]; exact h
 | cons f fs =>
  rw [hy] at this
  simp only [InstF] at this
  obtain ⟨g, l', e, e1, e2, e3, e4⟩ := this
  rw [e]
  exact ⟨h.g, rfl, e2, e3, e4, h.bx, by simp only [h.lp], h.ow, h.vc⟩
theorem Inst.loopOutR (h : Inst env y s) (r : Option Name) : Inst env (y.loopOutR r) (s.loopOutR r) := by
 unfold Sy.loopOutR Sa.loopOutR
 have := h.sv
 cases hy : y.sv with
 | nil => rw [hy] at this; simp only [InstF] at this; rw [this]; exact h
 | cons f fs =>
  rw [hy] at this
  simp only [InstF] at this
  obtain ⟨g, l', e, e1, e2, e3, e4⟩ := this
  rw [e]
  exact ⟨h.g, rfl, e2, e3, e4, h.bx, by simp only [h.lp], h.ow, h.vc⟩
theorem Inst.setLp (h : Inst env y s) (l : Name) (q : Lp) : Inst env (y.setLp l q) (Ab.setLp s l q) :=
 ⟨h.g, h.rd, h.n, h.ts, h.sv, h.bx, by simp only [Ab.setLp, Sy.setLp, h.lp], h.ow, h.vc⟩
theorem InstK.setAll : ∀ (ps : List Nat) {xs : List SV} {vs : List V} {l : List (Nat × SV)} {us : List (Nat × V)}, InstL env xs vs → InstK env l us → InstK env (setAllS ps xs l) (Ab.setAll ps vs us)
 | [], xs, vs, l, us, h, hk => by cases xs <;> cases vs <;> exact hk
 | t :: ps, [], vs, l, us, h, hk => by simp only [InstL] at h; subst h; exact hk
 | t :: ps, x :: xs, vs, l, us, h, hk => by
  simp only [InstL] at h
  obtain ⟨v, vs', rfl, h2, h3⟩ := h
  exact InstK.setAll ps h3 (hk.set h2)
theorem InstF.get : ∀ {xs : List SFr} {vs : List Fr}, InstF env xs vs → ∀ {i : Nat} {f : SFr}, xs[i]? = some f → ∃ g, vs[i]? = some g ∧ g.rd = f.rd ∧ g.n = f.n ∧ InstK env f.ts g.ts
 | [], vs, h, i, f, hf => by simp at hf
 | x :: xs, vs, h, i, f, hf => by
  simp only [InstF] at h
  obtain ⟨g, l', rfl, h1, h2, h3, h4⟩ := h
  cases i with
  | zero => simp at hf; subst hf; exact ⟨g, by simp, h1, h2, h3⟩
  | succ i => simpa using h4.get (by simpa using hf)
theorem Inst.frames (h : Inst env y s) : InstF env (framesS y) (Ab.frames s) := ⟨_, _, rfl, h.rd, h.n, h.ts, h.sv⟩
theorem Inst.frame (h : Inst env y s) {d : Nat} {f : SFr} (hf : (framesS y).reverse[d]? = some f) : ∃ g, (Ab.frames s).reverse[d]? = some g ∧ g.n = f.n ∧ InstK env f.ts g.ts := by
 have hl := h.frames.len
 obtain ⟨hd, e⟩ := List.getElem?_eq_some_iff.1 hf
 rw [List.getElem_reverse] at e
 simp only [List.length_reverse] at hd
 obtain ⟨g, g1, _, g2, g3⟩ := h.frames.get (i := (framesS y).length - 1 - d) (f := f) (List.getElem?_eq_some_iff.2 ⟨by omega, e⟩)
 refine ⟨g, ?_, g2, g3⟩
 rw [List.getElem?_reverse (by omega), hl]; exact g1
theorem Inst.round (h : Inst env y s) (l : Name) {f : SFr} {g : Fr} (hn : g.n = f.n) (hk : InstK env f.ts g.ts) (ps : List Nat) {args : List SV} {vs : List V} (ha : InstL env args vs) : Inst env (y.round l f ps args) (s.round l g ps vs) :=
 ⟨h.g, rfl, hn, InstK.setAll ps ha hk, ⟨_, _, rfl, h.rd, h.n, h.ts, h.sv⟩, h.bx, h.lp, h.ow, h.vc⟩
theorem resV_ok : ∀ {rs : List ResultVar} {vs : List SV} {K : List V → Prop}, resV P y rs = some vs → Inst env y s → (∀ us, InstL env vs us → K us) → resK P s rs K
 | [], vs, K, h, hI, hK => by cases h; exact hK [] rfl
 | .tmp t :: rs, vs, K, h, hI, hK => by
  obtain ⟨vs', h1, rfl⟩ := Option.map_eq_some_iff.1 h
  exact resV_ok (K := fun us => K (lkT t s.ts :: us)) h1 hI fun us hu => hK _ ⟨_, _, rfl, hI.ts.lk, hu⟩
 | .cell a t :: rs, vs, K, h, hI, hK => by
  simp only [resV] at h
  simp only [resK]
  split at h
  ·rename_i ag hag
   simp only [hag]
   split at h
   ·rename_i hc
    refine ⟨fun e => by rcases hc with hc | hc <;> first | exact hc | (rw [e] at hc; cases hc), ?_⟩
    split at h
    ·rename_i nm off ha
     have hl := hI.ts.lk (t := a)
     rw [ha] at hl
     simp only [InstV] at hl
     simp only [hl]
     split at h
     ·rename_i c hc
      obtain ⟨b, e1, e2⟩ := (hI.bx.look (n := nm)).1 hc
      simp only [e1]
      split at h
      ·rename_i z hz
       obtain ⟨vs', h1, rfl⟩ := Option.map_eq_some_iff.1 h
       obtain ⟨k1, k2⟩ := loadC_ok hz e2
       exact ⟨k2, resV_ok (K := fun us => K (loadBox ag off (tsz P t) b :: us)) h1 hI fun us hu => hK _ ⟨_, _, rfl, k1, hu⟩⟩
      ·cases h
     ·cases h
    ·cases h
   ·cases h
  ·cases h
theorem mkResS_ok {xs : List SV} {us : List V} (h : InstL env xs us) : InstV env (mkResS xs) (mkRes us) := by
 match xs, us, h with
 | [], us, h => simp only [InstL] at h; subst h; exact ⟨[], rfl, rfl⟩
 | [x], us, h =>
  simp only [InstL] at h
  obtain ⟨v, vs', rfl, h2, rfl⟩ := h
  exact h2
 | x :: x' :: xs, us, h =>
  have h' := h
  simp only [InstL] at h
  obtain ⟨v, vs', rfl, h2, v2, vs2, rfl, h3, h4⟩ := h
  exact ⟨_, rfl, h'⟩
theorem InstK.filter {q : Nat → Bool} : ∀ {l : List (Nat × SV)} {us : List (Nat × V)}, InstK env l us → InstK env (l.filter fun x => q x.1) (us.filter fun x => q x.1)
 | [], us, h => by simp only [InstK] at h; subst h; rfl
 | (k, x) :: l, us, h => by
  simp only [InstK] at h
  obtain ⟨v, us', rfl, h2, h3⟩ := h
  simp only [List.filter_cons]
  split
  ·exact ⟨_, _, rfl, h2, h3.filter⟩
  ·exact h3.filter
theorem lkT_filter {q : Nat → Bool} (t : Nat) : ∀ (us : List (Nat × V)), lkT t (us.filter fun x => q x.1) = lkT t us ∨ lkT t (us.filter fun x => q x.1) = .dead
 | [] => .inl rfl
 | (k, x) :: us => by
  simp only [List.filter_cons]
  split
  ·simp only [lkT]
   split
   ·exact .inl rfl
   ·exact lkT_filter t us
  ·rename_i hq
   simp only [lkT]
   split
   ·rename_i e; subst e
    right
    have : ∀ (l : List (Nat × V)), lkT k (l.filter fun x => q x.1) = .dead := by
     intro l
     induction l with
     | nil => rfl
     | cons z l ih =>
      obtain ⟨a, b⟩ := z
      simp only [List.filter_cons]
      split
      ·rename_i ha
       simp only [lkT]
       split
       ·rename_i e; subst e; exact absurd ha hq
       ·exact ih
      ·exact ih
    exact this us
   ·exact lkT_filter t us
theorem keepTs_ok (kp : List Nat) (h : Inst env y s) : ∃ s', Wk s s' ∧ Inst env (keepTs kp y) s' :=
 ⟨{ s with ts := s.ts.filter fun x => memN x.1 kp }, Wk.of rfl rfl rfl (fun t => lkT_filter (q := fun t => memN t kp) t s.ts) rfl (fun _ _ h => h) (fun _ h => h) (fun _ _ h => ⟨h, id⟩), h.g, h.rd, h.n, h.ts.filter (q := fun t => memN t kp), h.sv, h.bx, h.lp, h.ow, h.vc⟩
theorem keepR_ok {lv : Lv} {r : Res} {R : Ex → Sa → Prop} (h : (keepR lv r).t.sat CS noJ (LQ (keepR lv r).L fun lf e => ∀ s', Inst e lf.s s' → R lf.e s') env) :
  r.t.sat CS noJ (LQ r.L fun lf e => ∀ s', Inst e lf.s s' → ∃ s'', Wk s' s'' ∧ R lf.e s'') env := by
 refine T.sat_mono (fun _ _ h => h) ?_ h
 rintro i e ⟨lf, h1, h2⟩
 simp only [keepR, List.getElem?_map] at h1
 obtain ⟨lf0, h3, h4⟩ := Option.map_eq_some_iff.1 h1
 subst h4
 refine ⟨lf0, h3, fun s' hs => ?_⟩
 obtain ⟨s2, w2, i2⟩ := keepTs_ok (lvAt lv lf0.e) hs
 exact ⟨s2, w2, h2 s2 i2⟩
theorem sat_binds : ∀ {bs : Bs} {t : T} {J : Jt} {Q : Nat → List Val → Prop} {env : List Val}, (binds bs t).sat CS J Q env = okBs CS bs env (fun e => t.sat CS J Q e)
 | [], t, J, Q, env => rfl
 | b :: bs, t, J, Q, env => by
  simp only [binds, T.sat, okBs]
  congr 1; funext v
  rw [sat_binds]
theorem sat_shift {k n : Nat} {t : T} {J : Jt} {Q : Nat → List Val → Prop} {env : List Val} (h : (shiftT k n t).sat CS J Q env) : t.sat CS J (fun i e => i < n ∧ Q (i + k) e) env := by
 rw [shiftT, T.sat_sub] at h
 refine T.sat_mono (fun _ _ h => h) ?_ h
 intro i e hq
 split at hq
 ·rename_i hi; exact ⟨hi, hq⟩
 ·exact hq.elim
theorem contL_ok {f : Leaf → Nat → Option Res} : ∀ {L : List Leaf} {off c : Nat} {ts : List T} {Ls : List Leaf} {c2 : Nat} {lg : Log}, contL f L off c = some (ts, Ls, c2, lg) →
  (∀ (i : Nat) (lf : Leaf), L[i]? = some lf → ∃ (c1 : Nat) (r1 : Res) (t1 : T), f lf c1 = some r1 ∧ ts[i]? = some t1 ∧ ∀ {J : Jt} {Q : Leaf → List Val → Prop} {env : List Val}, t1.sat CS J (fun h e => off ≤ h → LQ Ls Q (h - off) e) env → r1.t.sat CS J (LQ r1.L Q) env) ∧
  (∀ lf' ∈ Ls, ∃ lf ∈ L, ∃ (c1 : Nat) (r1 : Res), f lf c1 = some r1 ∧ lf' ∈ r1.L) ∧ ts.length = L.length
 | [], off, c, ts, Ls, c2, lg, h => by cases h; exact ⟨fun i lf h => by simp at h, fun lf h => by simp at h, rfl⟩
 | lf :: L, off, c, ts, Ls, c2, lg, h => by
  simp only [contL] at h
  split at h
  ·rename_i r hr
   split at h
   ·rename_i ts' Ls' c2' lg' hc
    cases h
    obtain ⟨k1, k2, k3⟩ := contL_ok hc
    refine ⟨fun i lf' hl => ?_, fun lf' hm => ?_, by simp [k3]⟩
    ·cases i with
     | zero =>
      simp at hl; subst hl
      refine ⟨c, r, _, hr, List.getElem?_cons_zero, fun {J Q env} hs => ?_⟩
      split at hs
      ·rename_i e
       obtain ⟨e1, e2⟩ := e
       have hL : L = [] := by cases L <;> simp_all
       subst hL; subst e1
       cases hc
       refine T.sat_mono (fun _ _ h => h) ?_ hs
       intro j e hq
       have := hq (Nat.zero_le _)
       rw [List.append_nil] at this
       exact this
      ·refine T.sat_mono (fun _ _ h => h) ?_ (sat_shift hs)
       rintro j e ⟨hj, hq⟩
       obtain ⟨lf2, h2, h3⟩ := hq (by omega)
       rw [Nat.add_sub_cancel, List.getElem?_append_left hj] at h2
       exact ⟨lf2, h2, h3⟩
     | succ i =>
      obtain ⟨c1, r1, t1, e1, e2, e3⟩ := k1 i lf' (by simpa using hl)
      refine ⟨c1, r1, t1, e1, by simpa using e2, fun hs => e3 (T.sat_mono (fun _ _ h => h) ?_ hs)⟩
      intro j e hq hle
      obtain ⟨lf2, h2, h3⟩ := hq (by omega)
      rw [List.getElem?_append_right (by omega)] at h2
      exact ⟨lf2, by rw [← h2]; congr 1; omega, h3⟩
    ·rcases List.mem_append.1 hm with hm | hm
     ·exact ⟨lf, List.mem_cons_self, c, r, hr, hm⟩
     ·obtain ⟨lf2, h1, c1, r1, h2, h3⟩ := k2 lf' hm
      exact ⟨lf2, List.mem_cons_of_mem _ h1, c1, r1, h2, h3⟩
   ·cases h
  ·cases h
theorem thenL_ok {r r' : Res} {f : Leaf → Nat → Option Res} (h : thenL r f = some r') :
  (∀ {J : Jt} {Q : Leaf → List Val → Prop} {env : List Val}, r'.t.sat CS J (LQ r'.L Q) env → r.t.sat CS J (LQ r.L fun lf e => ∃ (c1 : Nat) (r1 : Res), f lf c1 = some r1 ∧ r1.t.sat CS J (LQ r1.L Q) e) env) ∧
  ∀ lf' ∈ r'.L, ∃ lf ∈ r.L, ∃ (c1 : Nat) (r1 : Res), f lf c1 = some r1 ∧ lf' ∈ r1.L := by
 unfold thenL at h
 split at h
 ·rename_i ts Ls c lg hc
  cases h
  obtain ⟨k1, k2, k3⟩ := contL_ok (CS := CS) hc
  refine ⟨fun {J Q env} hs => ?_, k2⟩
  rw [T.sat_sub] at hs
  refine T.sat_mono (fun _ _ h => h) ?_ hs
  intro i e hq
  cases hts : ts[i]? with
  | none => simp [List.getD_eq_getElem?_getD, hts, T.sat] at hq
  | some tt =>
   simp only [List.getD_eq_getElem?_getD, hts, Option.getD_some] at hq
   have hi : i < r.L.length := by rw [← k3]; exact (List.getElem?_eq_some_iff.1 hts).1
   refine ⟨r.L[i], List.getElem?_eq_getElem hi, ?_⟩
   obtain ⟨c1, r1, t1, e1, e2, e3⟩ := k1 i _ (List.getElem?_eq_getElem hi)
   rw [hts] at e2; cases e2
   exact ⟨c1, r1, e1, e3 (T.sat_mono (fun _ _ h => h) (fun _ _ h _ => h) hq)⟩
 ·cases h
end
end Go.Tx
namespace Go.Tx
set_option linter.unusedVariables false
set_option linter.unusedSimpArgs false
open Go Go.Ab
section
variable {P : Program} {S : Sems} {CS : Calls'} {env : List Val} {y : Sy} {s : Sa} {p : Name}
theorem put_lpS {d : Option Tmp} {z : SV} : (y.put d z).lp = y.lp := by cases d <;> rfl
theorem claim_lpS {i : Name} {sz : Option Nat} {et : Option Ty} {x z : SV} {y' : Sy} (h : y.claim i sz et x = some (z, y')) : y'.lp = y.lp := by
 cases x <;> simp only [Sy.claim, reduceCtorEq] at h
 case nil =>
  split at h
  ·split at h
   ·split at h
    ·cases h; rfl
    ·cases h
   ·cases h
  ·cases h; rfl
 all_goals (cases h; rfl)
theorem newS_lp {d : Nat} {dst : Option Tmp} {sz : Option Nat} {et : Option Ty} {z : SV} {bs : Bs} {y' : Sy} (h : newS y d p dst sz et z = some (bs, y')) : y'.lp = y.lp := by
 unfold newS at h
 split at h
 ·rename_i z' y1 hc
  split at h
  ·cases h; rw [put_lpS]; show y1.lp = _; exact claim_lpS hc
  ·cases h
 ·cases h
theorem storeP_lp {dst : Option Tmp} {t : TypeId} {n : Name} {off : Nat} {v : SV} {bs : Bs} {y' : Sy} (h : storeP P y dst t n off v = some (bs, y')) : y'.lp = y.lp := by
 unfold storeP at h
 split at h
 ·split at h
  ·rename_i v' y1 hc
   split at h
   ·split at h
    ·split at h
     ·cases h; rw [put_lpS]; show y1.lp = _; exact claim_lpS hc
     ·cases h
    ·cases h
   ·cases h
  ·cases h
 ·cases h
theorem storeA_lp {dst : Option Tmp} {t : TypeId} {n : Name} {off m : Nat} {u : Ty} {i : E} {inn : Nat} {v : SV} {bs : Bs} {y' : Sy} (h : storeA P y dst t n off m u i inn v = some (bs, y')) : y'.lp = y.lp := by
 unfold storeA at h
 split at h
 ·rename_i w e
  split at h
  ·rename_i b x hb
   split at h
   ·rename_i z hz
    simp only at h
    split at h
    ·split at h
     ·split at h
      ·cases h; rw [put_lpS]; rfl
      ·split at h
       ·cases h; rw [put_lpS]; rfl
       ·cases h
     ·split at h
      ·split at h
       ·cases hq : (if off = 0 ∧ b = .arr m u then some (b, E.var (y.g.length + 1)) else (ty2 (.upd off) b (.arr m u)).map fun b' => (b', E.p2 (.upd off) x (.var (y.g.length + 1)))) with
        | none => rw [hq] at h; cases h
        | some q => rw [hq] at h; cases h; rw [put_lpS]; rfl
       ·cases h
      ·cases h
    ·cases h
   ·cases h
  ·cases h
 ·cases h
theorem appendS_lp {dst : Option Tmp} {t u : TypeId} {a b : SV} {bs : Bs} {y' : Sy} (h : appendS P p y dst t u a b = some (bs, y')) : y'.lp = y.lp := by
 unfold appendS at h
 repeat' (split at h)
 all_goals first
  | (cases h; done)
  | (cases h; rw [put_lpS]; rfl)
theorem stOp_lp {o : Oper} {bs : Bs} {y' : Sy} (h : stOp P p y o = some (bs, y')) : y'.lp = y.lp := by
 unfold stOp at h
 simp only at h
 split at h
 ·split at h
  ·split at h
   ·rename_i hc; cases h; rw [put_lpS]; exact claim_lpS hc
   ·cases h
  ·cases h
 ·split at h
  ·split at h
   ·exact newS_lp h
   ·cases h
  ·cases h
 ·split at h
  ·split at h
   ·exact newS_lp h
   ·cases h
  ·cases h
 ·split at h
  ·exact storeP_lp h
  ·exact storeA_lp h
  ·cases h
 ·split at h
  ·split at h
   ·split at h
    ·rename_i hc; cases h; rw [put_lpS]; exact claim_lpS hc
    ·cases h
   ·cases h
  ·cases h
 ·split at h
  ·split at h
   ·split at h
    ·cases h; rw [put_lpS]
    ·cases h
   ·cases h
  ·cases h
 ·split at h
  ·split at h
   ·split at h
    ·cases h; rw [put_lpS]
    ·cases h
   ·cases h
  ·cases h
 ·split at h
  ·split at h
   ·split at h
    ·exact appendS_lp h
    ·cases h
   ·cases h
  ·cases h
 ·cases h
theorem vecOp_lp {o : Oper} {bs : Bs} {y' : Sy} (h : vecOp P p y o = some (bs, y')) : y'.lp = y.lp := by
 unfold vecOp at h
 simp only at h
 split at h
 ·split at h
  ·cases h; rw [put_lpS]
  ·cases h
 ·split at h
  ·split at h
   ·cases h; rw [put_lpS]
   ·cases h
  ·cases h
 ·split at h
  ·split at h
   ·split at h
    ·cases h; rw [put_lpS]; rfl
    ·cases h
   ·cases h
  ·cases h
 ·split at h
  ·split at h
   ·split at h
    ·split at h
     ·cases h; rw [put_lpS]; rfl
     ·cases h
    ·cases h
   ·cases h
  ·cases h
 ·split at h
  ·split at h
   ·split at h
    ·split at h
     ·cases h; rw [put_lpS]; rfl
     ·split at h
      ·cases h; rw [put_lpS]; rfl
      ·cases h
    ·cases h
   ·cases h
  ·cases h
 ·split at h
  ·split at h
   ·split at h
    ·split at h
     ·split at h
      ·cases h; rw [put_lpS]
      ·cases h
     ·cases h
    ·cases h
   ·cases h
  ·split at h
   ·split at h
    ·split at h
     ·split at h
      ·cases h; rw [put_lpS]; rfl
      ·cases h
     ·cases h
    ·cases h
   ·cases h
  ·cases h
 ·cases h
theorem opS_lp {tb : Tab} {o : Oper} {bs : Bs} {y' : Sy} (h : opS P tb p y o = some (bs, y')) : y'.lp = y.lp := by
 unfold opS at h
 split at h
 ·cases h; rw [put_lpS]; rfl
 ·split at h
  ·rename_i r hst
   cases h
   exact stOp_lp hst
  ·exact vecOp_lp h
theorem opG_lp {tb : Tab} {o : Oper} {gs : List E} {bs : Bs} {y' : Sy} (h : opG P tb y o gs = some (bs, y')) : y'.lp = y.lp := by
 unfold opG at h
 split at h
 ·split at h
  ·cases h; rw [put_lpS]; rfl
  ·cases h
 ·cases h
theorem oneOp_lp {tb : Tab} {ops : Array Oper} {o : Oper} {bs : Bs} {y' : Sy} (h : oneOp P tb p ops y o = some (bs, y')) : y'.lp = y.lp := by
 unfold oneOp at h
 split at h
 ·split at h
  ·exact opS_lp h
  ·split at h
   ·split at h
    ·split at h
     ·exact opS_lp h
     ·cases h; rw [put_lpS]
    ·exact opG_lp h
    ·exact opG_lp h
    ·cases h; rw [put_lpS]
    ·cases h
   ·cases h
 ·cases h
theorem pop_lpS : y.pop.lp = y.lp := by unfold Sy.pop; split <;> rfl
theorem loopOut_lpS {x : Name × Lp} {l : List (Name × Lp)} (h : y.lp = x :: l) (hs : y.sv ≠ []) : y.loopOut.lp = l := by
 unfold Sy.loopOut
 split
 ·simp [h]
 ·contradiction
theorem loopOutR_lpS {r : Option Name} {x : Name × Lp} {l : List (Name × Lp)} (h : y.lp = x :: l) (hs : y.sv ≠ []) : (y.loopOutR r).lp = l := by
 unfold Sy.loopOutR
 split
 ·simp [h]
 ·contradiction
theorem lpS_setN {nm : Name} {q q' : Lp} (h : q'.depth = q.depth ∧ q'.ps = q.ps ∧ q'.assign = q.assign ∧ q'.body = q.body) : ∀ {l : List (Name × Lp)}, lookN nm l = some q → lpS (Ab.setN nm q' l) = lpS l
 | [], _ => rfl
 | (n1, q1) :: l, hl => by
  simp only [lookN] at hl
  simp only [Ab.setN]
  split at hl
  ·rename_i e; cases hl; rw [if_pos e]; simp only [lpS, List.map_cons, e, h]
  ·rename_i e; rw [if_neg e]
   simp only [lpS, List.map_cons]
   have := lpS_setN h hl
   simp only [lpS] at this
   rw [this]
theorem lpS_look {l l' : List (Name × Lp)} (h : lpS l = lpS l') {nm : Name} {q : Lp} (hq : lookN nm l = some q) : ∃ q', lookN nm l' = some q' ∧ q'.depth = q.depth ∧ q'.ps = q.ps ∧ q'.assign = q.assign ∧ q'.body = q.body := by
 induction l generalizing l' with
 | nil => cases hq
 | cons x l ih =>
  cases l' with
  | nil => simp [lpS] at h
  | cons y l' =>
   obtain ⟨x1, x2⟩ := x
   obtain ⟨y1, y2⟩ := y
   simp only [lpS, List.map_cons, List.cons.injEq, Prod.mk.injEq] at h
   obtain ⟨⟨rfl, h2, h3, h4, h5⟩, h6⟩ := h
   simp only [lookN] at hq ⊢
   split at hq
   ·rename_i e; rw [if_pos e]; cases hq; exact ⟨y2, rfl, h2.symm, h3.symm, h4.symm, h5.symm⟩
   ·rename_i e; rw [if_neg e]; exact ih h6 hq
theorem joinY_lp {g0 : List Ty} {ys : List Sy} {j : Join} (h : joinY g0 ys = some j) : ∃ y ∈ ys, j.y.lp = y.lp := by
 unfold joinY at h
 split at h
 ·cases h
 ·rename_i y rest
  simp only at h
  split at h
  ·cases h
  ·rename_i z zs hz
   cases h
   refine ⟨y, List.mem_cons_self, ?_⟩
   rw [List.map_cons, List.map_cons] at hz
   simp only [List.cons.injEq] at hz
   rw [← hz.1]
   exact stripAll_lp
abbrev WkQ (R : Ex → Sa → Prop) : Ex → Sa → Prop := fun e s => ∃ s', Wk s s' ∧ R e s'
theorem wkQ_wkQ {R : Ex → Sa → Prop} {e : Ex} {s : Sa} (h : WkQ (WkQ R) e s) : WkQ R e s := by
 obtain ⟨s1, w1, s2, w2, h⟩ := h
 exact ⟨s2, Wk_trans w1 w2, h⟩
abbrev leafQ (R : Ex → Sa → Prop) : Leaf → List Val → Prop := fun lf e => ∀ s', Inst e lf.s s' → R lf.e s'
theorem leafQ_mono {R R' : Ex → Sa → Prop} (h : ∀ e s, R e s → R' e s) {t : T} {L : List Leaf} {J : Jt} (hs : t.sat CS J (LQ L (leafQ R)) env) : t.sat CS J (LQ L (leafQ R')) env :=
 T.sat_mono (fun _ _ h => h) (fun i e ⟨lf, h1, h2⟩ => ⟨lf, h1, fun s' hs => h _ _ (h2 s' hs)⟩) hs
theorem leafQ_refl {R : Ex → Sa → Prop} {t : T} {L : List Leaf} {J : Jt} (hs : t.sat CS J (LQ L (leafQ R)) env) : t.sat CS J (LQ L (leafQ (WkQ R))) env :=
 leafQ_mono (fun e s h => ⟨s, Wk.refl, h⟩) hs
theorem mergeOne_lp {g0 : List Ty} {force : Bool} {rep : Leaf} {r r' : Res} (h : mergeOne g0 force rep r = some r') {base : List (Name × Lp)} (hlp : ∀ lf ∈ r.L, lpS lf.s.lp = lpS base) : ∀ lf ∈ r'.L, lpS lf.s.lp = lpS base := by
 unfold mergeOne at h
 simp only at h
 split at h
 ·cases h; exact hlp
 ·split at h
  ·rename_i j hj
   split at h
   ·split at h
    ·rename_i t L hgl
     cases h
     obtain ⟨y, hy, hyl⟩ := joinY_lp hj
     obtain ⟨lf0, hlf0, rfl⟩ := List.mem_map.1 hy
     have h0 := hlp lf0 (List.mem_filter.1 hlf0).1
     have hjl : lpS j.y.lp = lpS base := by rw [hyl]; exact h0
     intro lf hlf
     unfold glue at hgl
     split at hgl
     ·rename_i ts os hsg
      cases hgl
      rcases List.mem_cons.1 hlf with rfl | hlf
      ·exact hjl
      ·exact hlp lf (sigma_mem hsg lf hlf)
     ·cases hgl
    ·cases h
   ·cases h
  ·cases h
theorem mergeOne_ok (hCS : CallsWf CS) {g0 : List Ty} {force : Bool} {rep : Leaf} {r r' : Res} (h : mergeOne g0 force rep r = some r') (hg : env.map (·.1) = g0) (hw : EnvWf env) {base : List (Name × Lp)} (hlp : ∀ lf ∈ r.L, lpS lf.s.lp = lpS base) :
  (∀ lf ∈ r'.L, lpS lf.s.lp = lpS base) ∧ ∀ {R : Ex → Sa → Prop}, r'.t.sat CS noJ (LQ r'.L (leafQ R)) env → r.t.sat CS noJ (LQ r.L (leafQ (WkQ R))) env := by
 unfold mergeOne at h
 simp only at h
 split at h
 ·cases h; exact ⟨hlp, leafQ_refl⟩
 ·split at h
  ·rename_i j hj
   split at h
   ·rename_i hgj
    split at h
    ·rename_i t L hgl
     cases h
     obtain ⟨y, hy, hyl⟩ := joinY_lp hj
     obtain ⟨lf0, hlf0, rfl⟩ := List.mem_map.1 hy
     have h0 := hlp lf0 (List.mem_filter.1 hlf0).1
     have hjl : lpS j.y.lp = lpS base := by rw [hyl]; exact h0
     refine ⟨fun lf hlf => ?_, fun {R} hs => glue_ok (Q := fun _ _ => True) hCS hgl (by rw [← hg, List.length_map]) hw (by rw [hgj, hg]) (fun lf hl => by rw [hlp lf hl, hjl]) hs⟩
     unfold glue at hgl
     split at hgl
     ·rename_i ts os hsg
      cases hgl
      rcases List.mem_cons.1 hlf with rfl | hlf
      ·exact hjl
      ·exact hlp lf (sigma_mem hsg lf hlf)
     ·cases hgl
    ·cases h
   ·cases h
  ·cases h
def mergeStep (g0 : List Ty) (force : Bool) (acc : Option Res) (rep : Leaf) : Option Res := match acc with | some r => mergeOne g0 force rep r | none => none
theorem mergeStep_none {g0 : List Ty} {force : Bool} : ∀ (l : List Leaf), l.foldl (mergeStep g0 force) none = none
 | [] => rfl
 | a :: l => mergeStep_none l
theorem mergeAll_ok (hCS : CallsWf CS) {g0 : List Ty} {force : Bool} {r r' : Res} (h : mergeAll g0 force r = some r') (hg : env.map (·.1) = g0) (hw : EnvWf env) {base : List (Name × Lp)} (hlp : ∀ lf ∈ r.L, lpS lf.s.lp = lpS base) :
  (∀ lf ∈ r'.L, lpS lf.s.lp = lpS base) ∧ ∀ {R : Ex → Sa → Prop}, r'.t.sat CS noJ (LQ r'.L (leafQ R)) env → r.t.sat CS noJ (LQ r.L (leafQ (WkQ R))) env := by
 change (classes r.L []).foldl (mergeStep g0 force) (some r) = some r' at h
 generalize classes r.L [] = cl at h
 induction cl generalizing r with
 | nil => cases h; exact ⟨hlp, leafQ_refl⟩
 | cons rep cl ih =>
  rw [List.foldl_cons] at h
  cases h1 : mergeOne g0 force rep r with
  | none =>
   have e : mergeStep g0 force (some r) rep = none := h1
   rw [e, mergeStep_none] at h; cases h
  | some r1 =>
   have e : mergeStep g0 force (some r) rep = some r1 := h1
   rw [e] at h
   obtain ⟨k1, k2⟩ := mergeOne_ok hCS h1 hg hw hlp
   obtain ⟨g1, g2⟩ := ih k1 h
   exact ⟨g1, fun hs => leafQ_mono (fun e s h => wkQ_wkQ h) (k2 (g2 hs))⟩
theorem mergeAll_lp {g0 : List Ty} {force : Bool} {r r' : Res} (h : mergeAll g0 force r = some r') {base : List (Name × Lp)} (hlp : ∀ lf ∈ r.L, lpS lf.s.lp = lpS base) : ∀ lf ∈ r'.L, lpS lf.s.lp = lpS base := by
 change (classes r.L []).foldl (mergeStep g0 force) (some r) = some r' at h
 generalize classes r.L [] = cl at h
 induction cl generalizing r with
 | nil => cases h; exact hlp
 | cons rep cl ih =>
  rw [List.foldl_cons] at h
  cases h1 : mergeOne g0 force rep r with
  | none =>
   have e : mergeStep g0 force (some r) rep = none := h1
   rw [e, mergeStep_none] at h; cases h
  | some r1 =>
   have e : mergeStep g0 force (some r) rep = some r1 := h1
   rw [e] at h
   exact ih (mergeOne_lp h1 hlp) h
theorem loopT_ok (hCS : CallsWf CS) {b : Code} {yL : Sy} {ps : List Ty} {init : List E} {r : Res} {as : List (List E)} {ts : List T} {os : List Leaf} {ids : List Name} {cv : Cv} (hg : env.map (·.1) = y.g) (hgL : yL.g = y.g ++ ps) (hw : EnvWf env)
  (hbody : ∀ env' s', Inst env' yL s' → EnvWf env' → ∀ R, r.t.sat CS noJ (LQ r.L (leafQ R)) env' → TC P p b s' R) (hlp : ∀ lf ∈ r.L, lpS lf.s.lp = lpS yL.lp)
  (hsg : sigma y.g.length ids cv yL ⟨.norm, .dead, yL⟩ r.L as 0 = some (ts, os)) (hI : Inst env y s) (hnn : ∀ lf ∈ os, isNorm lf.e = false) (hf : fitsY y.g.length init y yL = true) (hlpL : lpS y.lp = lpS yL.lp) {R : Ex → Sa → Prop}
  (hs : (T.loop ps init ((r.t.lift 0).sub fun i => ts.getD i .fail)).sat CS noJ (LQ os (leafQ R)) env) : TC P p (.loop b) s R := by
 have hn : env.length = y.g.length := by rw [← hg, List.length_map]
 simp only [T.sat] at hs
 obtain ⟨n, vs, hv, hrep⟩ := hs
 have hlen : ts.length = r.L.length := by
  have : ∀ {L : List Leaf} {as : List (List E)} {k : Nat} {ts : List T} {os : List Leaf}, sigma y.g.length ids cv yL ⟨.norm, .dead, yL⟩ L as k = some (ts, os) → ts.length = L.length := by
   intro L
   induction L with
   | nil => intro as k ts os h; cases h; rfl
   | cons x L ih =>
    intro as k ts os h
    simp only [sigma] at h
    split at h
    ·split at h
     ·split at h
      ·obtain ⟨⟨ts', os'⟩, h1, h2⟩ := Option.map_eq_some_iff.1 h
       cases h2; simp [ih h1]
      ·cases h
     ·cases h
    ·obtain ⟨⟨ts', os'⟩, h1, h2⟩ := Option.map_eq_some_iff.1 h
     cases h2; simp [ih h1]
  exact this hsg
 have start : ∃ s0, Wk s s0 ∧ Inst (env ++ vs) yL s0 := by
  have hI' : Inst (env ++ []) y s := by rw [List.append_nil]; exact hI
  have hv' : evs (env ++ []) init = some vs := by rw [List.append_nil]; exact hv
  refine fitsY_ok (by rw [hn]; exact hf) hlpL hI' hv' ?_
  cases n with
  | zero => exact hrep.elim
  | succ n => rw [List.map_append, hrep.1, hg, hgL]
 obtain ⟨s0, w0, i0⟩ := start
 refine TC.weaken w0 ?_
 have hwv := evs_wf hw hv
 refine TC_loopU (fun (x : { x : Nat × List Val × Sa // repeatN ps (fun again vs => ((r.t.lift 0).sub fun i => ts.getD i .fail).sat CS (consJ again noJ) (LQ os (leafQ R)) (env ++ vs)) x.1 x.2.1 ∧ Inst (env ++ x.2.1) yL x.2.2 ∧ WfL x.2.1 }) => x.1.2.2) (fun x => x.1.1) ?_ ⟨(n, vs, s0), hrep, i0, hwv⟩
 rintro ⟨⟨n, vs, s1⟩, hrep, hI1, hwv⟩
 simp only at hrep hI1 hwv
 cases n with
 | zero => exact hrep.elim
 | succ n =>
  obtain ⟨hps, hbd⟩ := hrep
  rw [T.sat_sub, T.sat_lift, cut_zero] at hbd
  have hwe : EnvWf (env ++ vs) := hw.app hwv
  have hbd2 := T.sat_ext hCS hwe hbd
  refine TC_post ?_
  refine hbody (env ++ vs) s1 hI1 hwe _ ?_
  refine T.sat_mono (fun _ _ h => h.2) ?_ hbd2
  rintro i e ⟨⟨l, rfl⟩, he, hq⟩
  cases hts : ts[i]? with
  | none => simp [List.getD_eq_getElem?_getD, hts, T.sat] at hq
  | some tt =>
   simp only [List.getD_eq_getElem?_getD, hts, Option.getD_some] at hq
   have hi : i < r.L.length := by rw [← hlen]; exact (List.getElem?_eq_some_iff.1 hts).1
   refine ⟨r.L[i], List.getElem?_eq_getElem hi, ?_⟩
   rcases sigma_ok hsg (List.getElem?_eq_getElem hi) with ⟨a, g1, g2, g3⟩ | ⟨j, g1, g2⟩
   ·rw [hts] at g1
    cases g1
    simp only [T.sat] at hq
    obtain ⟨us, hus, hag⟩ := hq
    intro s' hs'
    obtain ⟨s2, w2, i2⟩ := prepY_ok (ids := ids) (cv := cv) hs'
    have hrep' : repeatN ps (fun again vs => ((r.t.lift 0).sub fun i => ts.getD i .fail).sat CS (consJ again noJ) (LQ os (leafQ R)) (env ++ vs)) n us := hag
    have hgu : (env ++ us).map (·.1) = yL.g := by
     rw [List.map_append, hg, hgL]
     cases n with
     | zero => exact hrep'.elim
     | succ n => rw [hrep'.1]
    rw [List.append_assoc] at i2 hus
    obtain ⟨s3, w3, i3⟩ := fitsY_ok (by rw [hn]; exact g3) (by rw [prepY_lp]; exact hlp _ (List.getElem_mem hi)) i2 hus hgu
    refine ⟨s3, Wk_trans w2 w3, ?_⟩
    simp only at g2
    rw [g2]
    exact ⟨⟨(n, us, s3), hrep', i3, evs_wf (by rw [← List.append_assoc]; exact he) hus⟩, Wk.refl, Nat.lt_succ_self n⟩
   ·rw [hts] at g1
    cases g1
    simp only [T.sat] at hq
    obtain ⟨lf, hlf, hR⟩ := hq
    rw [Nat.zero_add] at hlf
    rw [g2] at hlf
    cases hlf
    intro s' hs'
    refine ⟨s', Wk.refl, ?_⟩
    have hr := hR s' hs'
    have hno := hnn _ (List.mem_iff_getElem?.2 ⟨_, g2⟩)
    split
    ·rename_i e; rw [e] at hno; cases hno
    ·exact hr
end
end Go.Tx
namespace Go.Tx
set_option linter.unusedVariables false
set_option linter.unusedSimpArgs false
open Go Go.Ab
section
variable {P : Program} {CS : Calls'} {env : List Val} {y : Sy} {s : Sa} {p : Name}
abbrev valQ (k : V → Sa → Prop) : Leaf → List Val → Prop := fun lf e => ∀ s' v, Inst e lf.s s' → InstV e lf.v v → k v s'
def Goal (P : Program) (p : Name) : Task → Sa → List Val → Res → Prop
 | .code f cd _ _, s, env, r => ∀ R, r.t.sat (CallV P) noJ (LQ r.L (leafQ R)) env → TC P p cd s R
 | .ops f all l, s, env, r => ∀ k : Sa → Prop, r.t.sat (CallV P) noJ (LQ r.L (leafQ fun _ => k)) env → evOps P (sems P) p all l s k
 | .plan f all l, s, env, r => ∀ k : Sa → Prop, r.t.sat (CallV P) noJ (LQ r.L (leafQ fun _ => k)) env → evPlan P p all l s k
 | .call g args, s, env, r => ∀ vs k, InstL env args vs → r.t.sat (CallV P) noJ (LQ r.L (valQ k)) env → TCall P p g vs s k
 | .yld l args, s, env, r => ∀ vs k, InstL env args vs → r.t.sat (CallV P) noJ (LQ r.L (valQ k)) env → TYld P p l vs s k
structure Snd (P : Program) (p : Name) (t : Task) (y : Sy) (r : Res) : Prop where
 lp : ∀ lf ∈ r.L, lpS lf.s.lp = lpS y.lp
 go : ∀ env s, Inst env y s → EnvWf env → Goal P p t s env r
theorem mapL_sat {f : Leaf → Leaf} {r : Res} {J : Jt} {Q : Leaf → List Val → Prop} (h : (mapL f r).t.sat CS J (LQ (mapL f r).L Q) env) : r.t.sat CS J (LQ r.L fun lf e => Q (f lf) e) env := by
 refine T.sat_mono (fun _ _ h => h) ?_ h
 rintro i e ⟨lf, h1, h2⟩
 simp only [mapL, List.getElem?_map] at h1
 obtain ⟨lf0, h3, rfl⟩ := Option.map_eq_some_iff.1 h1
 exact ⟨lf0, h3, h2⟩
theorem lq_mono {L : List Leaf} {Q Q' : Leaf → List Val → Prop} {J : Jt} {t : T} (h : ∀ lf ∈ L, ∀ e, Q lf e → Q' lf e) (hs : t.sat CS J (LQ L Q) env) : t.sat CS J (LQ L Q') env :=
 T.sat_mono (fun _ _ h => h) (fun i e ⟨lf, h1, h2⟩ => ⟨lf, h1, h lf (List.mem_iff_getElem?.2 ⟨i, h1⟩) e h2⟩) hs
theorem sat_wf {L : List Leaf} {Q : Leaf → List Val → Prop} {t : T} (hw : EnvWf env) (h : t.sat (CallV P) noJ (LQ L Q) env) : t.sat (CallV P) noJ (LQ L fun lf e => EnvWf e ∧ Q lf e) env :=
 T.sat_mono (fun j vs h => h.2) (fun i e ⟨_, hw, lf, h1, h2⟩ => ⟨lf, h1, hw, h2⟩) (T.sat_ext callV_wf hw h)
theorem then_sat {r r' : Res} {f : Leaf → Nat → Option Res} {Q : Leaf → List Val → Prop} (h : thenL r f = some r') (hw : EnvWf env) (hs : r'.t.sat (CallV P) noJ (LQ r'.L Q) env) :
  r.t.sat (CallV P) noJ (LQ r.L fun lf e => EnvWf e ∧ ∃ c1 r1, f lf c1 = some r1 ∧ r1.t.sat (CallV P) noJ (LQ r1.L Q) e) env :=
 sat_wf hw ((thenL_ok (CS := CallV P) h).1 hs)
theorem then_mem {r r' : Res} {f : Leaf → Nat → Option Res} (h : thenL r f = some r') : ∀ lf' ∈ r'.L, ∃ lf ∈ r.L, ∃ c1 r1, f lf c1 = some r1 ∧ lf' ∈ r1.L :=
 (thenL_ok (CS := fun _ _ _ => False) h).2
theorem one_sat {e : Ex} {v : SV} {c : Nat} {Q : Leaf → List Val → Prop} {J : Jt} (h : (one e v y c).t.sat CS J (LQ (one e v y c).L Q) env) : Q ⟨e, v, y⟩ env := by
 obtain ⟨lf, h1, h2⟩ := h
 simp [one] at h1
 subst h1; exact h2
theorem one_mem {e : Ex} {v : SV} {c : Nat} {lf : Leaf} (h : lf ∈ (one e v y c).L) : lf = ⟨e, v, y⟩ := by simpa [one] using h
theorem shift_l {t1 : T} {L1 L2 : List Leaf} {Q : Leaf → List Val → Prop} {J : Jt} (h : (shiftT 0 L1.length t1).sat CS J (LQ (L1 ++ L2) Q) env) : t1.sat CS J (LQ L1 Q) env := by
 refine T.sat_mono (fun _ _ h => h) ?_ (sat_shift h)
 rintro i e ⟨hi, lf, h1, h2⟩
 rw [Nat.add_zero, List.getElem?_append_left hi] at h1
 exact ⟨lf, h1, h2⟩
theorem shift_r {t2 : T} {L1 L2 : List Leaf} {Q : Leaf → List Val → Prop} {J : Jt} (h : (shiftT L1.length L2.length t2).sat CS J (LQ (L1 ++ L2) Q) env) : t2.sat CS J (LQ L2 Q) env := by
 refine T.sat_mono (fun _ _ h => h) ?_ (sat_shift h)
 rintro i e ⟨hi, lf, h1, h2⟩
 rw [List.getElem?_append_right (by omega), Nat.add_sub_cancel] at h1
 exact ⟨lf, h1, h2⟩
theorem keepR_lp {lv : Lv} {r : Res} {base : List (Name × Lp)} (h : ∀ lf ∈ r.L, lpS lf.s.lp = lpS base) : ∀ lf ∈ (keepR lv r).L, lpS lf.s.lp = lpS base := by
 intro lf hl
 simp only [keepR, List.mem_map] at hl
 obtain ⟨lf0, h0, rfl⟩ := hl
 exact h lf0 h0
theorem mapL_lp {f : Leaf → Leaf} {r : Res} {base : List (Name × Lp)} (hf : ∀ lf, (f lf).s = lf.s) (h : ∀ lf ∈ r.L, lpS lf.s.lp = lpS base) : ∀ lf ∈ (mapL f r).L, lpS lf.s.lp = lpS base := by
 intro lf hl
 simp only [mapL, List.mem_map] at hl
 obtain ⟨lf0, h0, rfl⟩ := hl
 rw [hf]; exact h lf0 h0
theorem Snd.skip {f : FuncId} {lc : LC} {lv : Lv} {c : Nat} : Snd P p (.code f .skip lc lv) y (one .norm .dead y c) :=
 ⟨fun lf h => by rw [one_mem h], fun env s hI hw R hs => TC_skip (one_sat hs s hI)⟩
theorem Snd.exit {f : FuncId} {lc : LC} {lv : Lv} {c i : Nat} : Snd P p (.code f (.exit i) lc lv) y (one (.exit i) .dead y c) :=
 ⟨fun lf h => by rw [one_mem h], fun env s hI hw R hs => TC_exit (one_sat hs s hI)⟩
theorem Snd.ret {f : FuncId} {lc : LC} {lv : Lv} {c : Nat} : Snd P p (.code f .ret lc lv) y (one .ret .dead y c) :=
 ⟨fun lf h => by rw [one_mem h], fun env s hI hw R hs => TC_ret (one_sat hs s hI)⟩
theorem Snd.region {f : FuncId} {lc : LC} {lv : Lv} {id : Nat} {ops : Array Oper} {r : Res} (H : Snd P p (.ops f ops ops.toList) y r) :
  Snd P p (.code f (.region id ops false) lc lv) y (keepR lv (mapL (fun lf => { lf with e := .norm }) r)) :=
 ⟨keepR_lp (mapL_lp (fun _ => rfl) H.lp), fun env s hI hw R hs => TC_post (TC_region (H.go env s hI hw _ (mapL_sat (f := fun lf => { lf with e := .norm }) (Q := leafQ (WkQ R)) (keepR_ok hs))))⟩
theorem Snd.draw {f : FuncId} {lc : LC} {lv : Lv} {id : Nat} {ops : Array Oper} {r : Res} {pl : List Seg} (hm : P.follows .mixedOrders = true) (hp : planOK ops [] pl = true) (H : Snd P p (.plan f ops pl) y r) :
  Snd P p (.code f (.region id ops true) lc lv) y (keepR lv (mapL (fun lf => { lf with e := .norm }) r)) :=
 ⟨keepR_lp (mapL_lp (fun _ => rfl) H.lp), fun env s hI hw R hs => TC_post (TC_draw pl hm hp (H.go env s hI hw _ (mapL_sat (f := fun lf => { lf with e := .norm }) (Q := leafQ (WkQ R)) (keepR_ok hs))))⟩
theorem Snd.seq {f : FuncId} {a b : Code} {lc la lb : LC} {lv lva lvb : Lv} {r r' : Res} {F : Leaf → Nat → Option Res} (H : Snd P p (.code f a la lva) y r) (h : thenL r F = some r')
  (hF : ∀ lf c r1, lf.e = .norm → F lf c = some r1 → Snd P p (.code f b lb lvb) lf.s r1) (hF' : ∀ lf c r1, lf.e ≠ .norm → F lf c = some r1 → r1 = one lf.e .dead lf.s c) :
  Snd P p (.code f (.seq a b) lc lv) y r' := by
 constructor
 ·intro lf' hl
  obtain ⟨lf, h1, c1, r1, h2, h3⟩ := then_mem h lf' hl
  by_cases e : lf.e = .norm
  ·rw [(hF lf c1 r1 e h2).lp _ h3]; exact H.lp _ h1
  ·have := hF' lf c1 r1 e h2; subst this
   rw [one_mem h3]; exact H.lp lf h1
 ·intro env s hI hw R hs
  refine TC_seq (H.go env s hI hw _ (lq_mono ?_ (then_sat h hw hs)))
  rintro lf hlf e ⟨hwe, c1, r1, h1, h2⟩ s' hs'
  cases he : lf.e with
  | norm => exact (hF lf c1 r1 he h1).go e s' hs' hwe R h2
  | ret =>
   have := hF' lf c1 r1 (by rw [he]; intro h; cases h) h1; subst this
   have h3 := one_sat h2 s' hs'
   rw [he] at h3; exact h3
  | exit i =>
   have := hF' lf c1 r1 (by rw [he]; intro h; cases h) h1; subst this
   have h3 := one_sat h2 s' hs'
   rw [he] at h3; exact h3
theorem get_bool {cd : Operand} {b : Bool} (hI : Inst env y s) (hc : y.get cd = some (.e .bool (.bool b))) : s.get cd = .d (.v (.bool b)) := by
 have := hI.get hc
 simp only [InstV] at this
 obtain ⟨a, h1, h2⟩ := this
 cases h1
 rw [h2, encD_bool]
theorem Snd.cond_k {f : FuncId} {cd : Operand} {a b : Code} {lc lc' : LC} {lv : Lv} {r : Res} {w : Bool} (hc : y.get cd = some (.e .bool (.bool w))) (H : Snd P p (.code f (if w then a else b) lc' lv) y r) :
  Snd P p (.code f (.cond cd a b) lc lv) y r :=
 ⟨H.lp, fun env s hI hw R hs => TC_cond (get_bool hI hc) (by
  cases w with
  | true => simp only [caseB_true]; exact H.go env s hI hw R hs
  | false => simp only [caseB_false]; exact H.go env s hI hw R hs)⟩
theorem Snd.cond {f : FuncId} {cd : Operand} {a b : Code} {lc la lb : LC} {lv : Lv} {r1 r2 r : Res} {x : E} {c : Nat} {lg : Log} (hc : y.get cd = some (.e .bool x)) (H1 : Snd P p (.code f a la lv) y r1) (H2 : Snd P p (.code f b lb lv) y r2)
  (h : mergeAll y.g false (keepR lv ⟨.ite x (shiftT 0 r1.L.length r1.t) (shiftT r1.L.length r2.L.length r2.t), r1.L ++ r2.L, c, lg⟩) = some r) : Snd P p (.code f (.cond cd a b) lc lv) y r := by
 have hlp : ∀ lf ∈ (keepR lv ⟨.ite x (shiftT 0 r1.L.length r1.t) (shiftT r1.L.length r2.L.length r2.t), r1.L ++ r2.L, c, lg⟩).L, lpS lf.s.lp = lpS y.lp :=
  keepR_lp fun lf hl => (List.mem_append.1 hl).elim (H1.lp lf) (H2.lp lf)
 refine ⟨mergeAll_lp h hlp, fun env s hI hw R hs => ?_⟩
 have h1 := keepR_ok ((mergeAll_ok callV_wf h hI.g hw hlp).2 hs)
 simp only [T.sat] at h1
 obtain ⟨w, hx, ht, hf⟩ := h1
 have hv := hI.get hc
 simp only [InstV] at hv
 obtain ⟨w', h2, h3⟩ := hv
 rw [hx] at h2; cases h2
 rw [encD_bool] at h3
 refine TC_post (TC_post (TC_cond h3 ⟨fun e => H1.go env s hI hw _ (shift_l (ht e)), fun e => H2.go env s hI hw _ (shift_r (hf e))⟩))
theorem Snd.block {f : FuncId} {id : Nat} {b : Code} {lc lb : LC} {lv lvb : Lv} {r r' : Res} (H : Snd P p (.code f b lb lvb) y r)
  (h : mergeAll y.g false (keepR lv (mapL (fun lf => match lf.e with | .exit i => if i = id then { lf with e := .norm } else lf | _ => lf) r)) = some r') : Snd P p (.code f (.block id b) lc lv) y r' := by
 have hlp : ∀ lf ∈ (keepR lv (mapL (fun lf => match lf.e with | .exit i => if i = id then { lf with e := .norm } else lf | _ => lf) r)).L, lpS lf.s.lp = lpS y.lp :=
  keepR_lp (mapL_lp (fun lf => by
   split
   ·split <;> rfl
   ·rfl) H.lp)
 refine ⟨mergeAll_lp h hlp, fun env s hI hw R hs => ?_⟩
 have h1 := mapL_sat (keepR_ok ((mergeAll_ok callV_wf h hI.g hw hlp).2 hs))
 refine TC_post (TC_post (TC_block (H.go env s hI hw _ (lq_mono ?_ h1))))
 intro lf hlf e hq s' hs'
 cases he : lf.e with
 | norm => rw [he] at hq; simp only [he] at hq; exact hq s' hs'
 | ret => rw [he] at hq; simp only [he] at hq; exact hq s' hs'
 | exit i =>
  rw [he] at hq
  simp only at hq
  by_cases e : i = id
  ·rw [if_pos e] at hq
   simp only [if_pos e]
   exact hq s' hs'
  ·rw [if_neg e] at hq
   simp only [if_neg e]
   have := hq s' hs'
   rw [he] at this
   exact this
theorem prepY_g {ids : List Name} {cv : Cv} : (prepY ids cv y).g = y.g := by
 have : ∀ (ids : List Name) (y : Sy), (stripAll ids y).g = y.g := by
  intro ids
  induction ids with
  | nil => intro y; rfl
  | cons i ids ih => intro y; exact (ih _).trans prepOne_g
 exact this ids y
theorem headY_lp {g0 : List Ty} {h : Option Hint} : (headY g0 h y).1.lp = y.lp := by
 unfold headY
 rfl
theorem Snd.loop {f : FuncId} {b : Code} {lc lb : LC} {lv lvb : Lv} {hh : Option Hint} {yL : Sy} {ps : List Ty} {init : List E} {c0 : Nat} {r r' : Res} (hhd : yL.lp = y.lp)
  (hf : fitsY y.g.length init (prepY (hIds hh) (hCv hh) y) yL = true) (hgL : yL.g = y.g ++ ps) (H : Snd P p (.code f b lb lvb) yL r) (h : loopR y.g hh yL ps init c0 (keepR lvb r) = some r') : Snd P p (.code f (.loop b) lc lv) y r' := by
 unfold loopR at h
 have hlpk := keepR_lp (lv := lvb) H.lp
 split at h
 ·rename_i ts os hsg
  split at h
  ·rename_i hnn
   have hnn' : ∀ lf ∈ os, isNorm lf.e = false := fun lf hl => by
    have := (List.all_eq_true.1 hnn) lf hl
    simpa using this
   have hlp : ∀ lf ∈ os, lpS lf.s.lp = lpS y.lp := fun lf hl => by rw [← hhd]; exact hlpk lf (sigma_mem hsg lf hl)
   refine ⟨mergeAll_lp h hlp, fun env s hI hw R hs => ?_⟩
   obtain ⟨s1, w1, i1⟩ := prepY_ok (ids := hIds hh) (cv := hCv hh) hI
   refine TC_post (TC.weaken w1 (loopT_ok (y := prepY (hIds hh) (hCv hh) y) callV_wf i1.g (by rw [prepY_g]; exact hgL) hw (r := keepR lvb r) ?_ hlpk (by rw [prepY_g]; exact hsg) i1 hnn' (by rw [prepY_g]; exact hf) (by rw [hhd, prepY_lp]) ((mergeAll_ok callV_wf h hI.g hw hlp).2 hs)))
   intro env' s' hI' hw' R' hs'
   exact TC_post (H.go env' s' hI' hw' _ (keepR_ok hs'))
  ·cases h
 ·have hlp : ∀ lf ∈ ((keepR lvb r).L.filter fun lf => !isNorm lf.e), lpS lf.s.lp = lpS y.lp := fun lf hl => by rw [← hhd]; exact hlpk lf (List.mem_filter.1 hl).1
  refine ⟨mergeAll_lp h hlp, fun env s hI hw R hs => ?_⟩
  have := (mergeAll_ok callV_wf h hI.g hw hlp).2 hs
  exact this.elim
end
end Go.Tx
namespace Go.Tx
set_option linter.unusedVariables false
set_option linter.unusedSimpArgs false
open Go Go.Ab
section
variable {P : Program} {CS : Calls'} {env : List Val} {y : Sy} {s : Sa} {p : Name}
theorem okBs_wf' (hCS : CallsWf CS) : ∀ {bs : Bs} {env : List Val} {F : List Val → Prop}, EnvWf env → okBs CS bs env F → okBs CS bs env fun e => EnvWf e ∧ F e
 | [], env, F, hw, h => ⟨hw, h⟩
 | b :: bs, env, F, hw, h => by
  simp only [okBs] at h ⊢
  obtain ⟨v, h1, h2, h3⟩ := h
  exact ⟨v, h1, h2, okBs_wf' hCS (hw.snoc (B.ok_wf hCS hw h2)) h3⟩
theorem dst_lt' {d : Option Tmp} (h : dstOK y.n d = true) (hn : s.n = y.n) : ∀ t, d = some t → t < s.n := by
 intro t e
 subst e
 simp only [dstOK, decide_eq_true_eq] at h
 rw [hn]; exact h
theorem Snd.onil {f : FuncId} {all : Array Oper} {c : Nat} : Snd P p (.ops f all []) y (one .norm .dead y c) :=
 ⟨fun lf h => by rw [one_mem h], fun env s hI hw k hs => one_sat hs s hI⟩
theorem binds_go {bs : Bs} {r : Res} {Q : Leaf → List Val → Prop} (hw : EnvWf env) (hs : (binds bs r.t).sat (CallV P) noJ (LQ r.L Q) env) : okBs (CallV P) bs env fun e => EnvWf e ∧ r.t.sat (CallV P) noJ (LQ r.L Q) e := by
 rw [sat_binds] at hs
 exact okBs_wf' callV_wf hw hs
theorem Snd.oone {f : FuncId} {tb : Tab} {all : Array Oper} {o : Oper} {l : List Oper} {bs : Bs} {y1 : Sy} {r : Res} (h : oneOp P tb p all y o = some (bs, y1)) (H : Snd P p (.ops f all l) y1 r) :
  Snd P p (.ops f all (o :: l)) y { r with t := binds bs r.t } :=
 ⟨fun lf hl => by rw [H.lp lf hl, oneOp_lp h], fun env s hI hw k hs => by
  refine oneOp_ok pureS_sems hI hw h ?_
  refine okBs_mono ?_ (binds_go hw hs)
  rintro e ⟨hwe, hq⟩ s' hs'
  exact H.go e s' hs' hwe k hq⟩
theorem callOp_ok {C : Cx} {rec : Name → Task → Sy → Nat → Option Res} (H : ∀ p t y c r, rec p t y c = some r → Snd C.P p t y r) {f : FuncId} {all : Array Oper} {rest : List Oper} {o : Oper} {c : Nat} {r : Res} (h : callOp C rec p f all rest o y c = some r) :
  (∀ lf ∈ r.L, lpS lf.s.lp = lpS y.lp) ∧ ∀ env s, Inst env y s → EnvWf env → ∀ k : Sa → Prop, r.t.sat (CallV C.P) noJ (LQ r.L (leafQ fun _ => k)) env → evOp C.P (sems C.P) p o s fun s' => evOps C.P (sems C.P) p all rest s' k := by
 unfold callOp at h
 split at h
 ·rename_i cl hop
  split at h
  ·rename_i fv hcl
   split at h
   ·rename_i z args hz hargs
    simp only at h
    have fin : ∀ {t : Task} {r0 : Res}, Snd C.P (o.dst.getD 0 :: p) t y r0 → thenL r0 (fun lf c => if dstOK lf.s.n o.dst = true then rec p (.ops f all rest) (lf.s.put o.dst lf.v) c else none) = some r →
      (∀ lf ∈ r.L, lpS lf.s.lp = lpS y.lp) ∧ ∀ env, EnvWf env → ∀ k : Sa → Prop, r.t.sat (CallV C.P) noJ (LQ r.L (leafQ fun _ => k)) env →
       r0.t.sat (CallV C.P) noJ (LQ r0.L (valQ fun v s' => (∀ d, o.dst = some d → d < s'.n) ∧ evOps C.P (sems C.P) p all rest (s'.put o.dst v) k)) env := by
     intro t r0 h0 h
     constructor
     ·intro lf' hl
      obtain ⟨lf, h1, c1, r1, h2, h3⟩ := then_mem h lf' hl
      split at h2
      ·rw [(H _ _ _ _ _ h2).lp _ h3, put_lpS]; exact h0.lp lf h1
      ·cases h2
     ·intro env hw k hs
      refine lq_mono ?_ (then_sat h hw hs)
      rintro lf hlf e ⟨hwe, c1, r1, h1, h2⟩ s' v hs' hv
      split at h1
      ·rename_i hd
       exact ⟨dst_lt' hd hs'.n, (H _ _ _ _ _ h1).go e _ (hs'.put o.dst hv) hwe k h2⟩
      ·cases h1
    have hgets : ∀ {env s}, Inst env y s → InstL env args (cl.args.toList.map s.get) := fun hI => getAll_ok (fun o x hx => hI.get hx) hargs
    split at h
    ·rename_i r0 hr0
     split at hr0
     ·rename_i g x
      split at hr0
      ·rename_i hcal
       have h0 := H _ _ _ _ _ hr0
       obtain ⟨k1, k2⟩ := fin h0 h
       refine ⟨k1, fun env s hI hw k hs => ?_⟩
       have hv := hI.get hz
       simp only [InstV] at hv
       obtain ⟨a, e1, e2⟩ := hv
       simp only [evOp, hop, hcl, e2]
       exact ⟨hcal, h0.go env s hI hw _ _ (hgets hI) (k2 env hw k hs)⟩
      ·cases hr0
     ·rename_i g cap
      split at hr0
      ·rename_i hcal
       have h0 := H _ _ _ _ _ hr0
       obtain ⟨k1, k2⟩ := fin h0 h
       refine ⟨k1, fun env s hI hw k hs => ?_⟩
       have hv := hI.get hz
       simp only [InstV] at hv
       obtain ⟨c', e1, e2⟩ := hv
       simp only [evOp, hop, hcl, e1]
       exact ⟨hcal, h0.go env s hI hw _ _ ((hgets hI).append e2) (k2 env hw k hs)⟩
      ·cases hr0
     ·rename_i l
      have h0 := H _ _ _ _ _ hr0
      obtain ⟨k1, k2⟩ := fin h0 h
      refine ⟨k1, fun env s hI hw k hs => ?_⟩
      have hv := hI.get hz
      simp only [InstV] at hv
      simp only [evOp, hop, hcl, hv]
      exact h0.go env s hI hw _ _ (hgets hI) (k2 env hw k hs)
     ·cases hr0
    ·cases h
   ·cases h
  ·cases h
 ·cases h
end
end Go.Tx
namespace Go.Tx
set_option linter.unusedVariables false
set_option linter.unusedSimpArgs false
open Go Go.Ab
section
variable {P : Program} {CS : Calls'} {env : List Val} {y : Sy} {s : Sa} {p : Name}
theorem InstK.mapS {κ : Type} {f : SV → SV} (hf : ∀ x v, InstV env x v → InstV env (f x) v) : ∀ {xs : List (κ × SV)} {vs : List (κ × V)}, InstK env xs vs → InstK env (xs.map fun x => (x.1, f x.2)) vs
 | [], vs, h => by simp only [InstK] at h; subst h; rfl
 | (k, x) :: xs, vs, h => by
  simp only [InstK] at h
  obtain ⟨v, vs', rfl, h2, h3⟩ := h
  exact ⟨v, vs', rfl, hf _ _ h2, h3.mapS hf⟩
theorem openY_ok {g : E} (hg : g.val env = some ⟨.bool, true⟩) (hI : Inst env y s) : Inst env (openY g y) s :=
 ⟨hI.g, hI.rd, hI.n, hI.ts.mapS (fun x v h => reduceG_ok (by simp [holds, hg]) h), hI.sv, hI.bx, hI.lp, hI.ow, hI.vc⟩
theorem shutV_ok {g : E} (hg : g.val env = some ⟨.bool, false⟩) {z : SV} {v : V} (h : InstV env z v) : InstV env (shutV g z) v := by
 unfold shutV
 split
 ·rename_i gs x
  split
  ·rename_i ha
   simp only [InstV] at h
   obtain ⟨b, h1, h2, h3, h4⟩ := h
   obtain ⟨g', hm, hs⟩ := List.any_eq_true.1 ha
   have e := E.same_eq hs
   subst e
   cases b with
   | true => have := holds_mem h1 _ hm; rw [hg] at this; cases this
   | false => rw [h4 rfl]; exact ⟨[], rfl, rfl⟩
  ·exact h
 ·exact h
theorem shutY_ok {g : E} (hg : g.val env = some ⟨.bool, false⟩) (hI : Inst env y s) : Inst env (shutY g y) s :=
 ⟨hI.g, hI.rd, hI.n, hI.ts.mapS (fun x v h => shutV_ok hg h), hI.sv, hI.bx, hI.lp, hI.ow, hI.vc⟩
theorem setKnown {t : Nat} {b : Bool} (hI : Inst env y s) (hl : lkT t s.ts = .d (.v (.bool b))) : Inst env { y with ts := setS t (.e .bool (.bool b)) y.ts } s := by
 have h := hI.put (some t) (x := .e .bool (.bool b)) (v := .d (.v (.bool b))) (by simp only [InstV]; exact ⟨b, rfl, by rw [encD_bool]⟩)
 rw [put_self hl (by simp)] at h
 exact h
theorem Snd.ocall {C : Cx} {rec : Name → Task → Sy → Nat → Option Res} (H : ∀ p t y c r, rec p t y c = some r → Snd C.P p t y r) {f : FuncId} {all : Array Oper} {rest : List Oper} {o : Oper} {c : Nat} {r : Res} (hd : dstOK y.n o.dst = true) (hg : o.guard = none)
  (h : callOp C rec p f all rest o y c = some r) : Snd C.P p (.ops f all (o :: rest)) y r := by
 obtain ⟨h1, h2⟩ := callOp_ok H h
 refine ⟨h1, fun env s hI hw k hs => ?_⟩
 show evOps C.P (sems C.P) p all (o :: rest) s k
 simp only [evOps, hg]
 refine ⟨?_, h2 env s hI hw k hs⟩
 split
 ·exact dst_lt' hd hI.n _ ‹_›
 ·trivial
theorem Snd.ocallK {C : Cx} {rec : Name → Task → Sy → Nat → Option Res} (H : ∀ p t y c r, rec p t y c = some r → Snd C.P p t y r) {f : FuncId} {all : Array Oper} {rest : List Oper} {o : Oper} {c : Nat} {r : Res} {j : Nat} {want : Bool} {t : Tmp} (hd : dstOK y.n o.dst = true) (hg : o.guard = some (j, want)) (ht : (all[j]?).bind (·.dst) = some t) (hk : lkS t y.ts = .e .bool (.bool want))
  (h : callOp C rec p f all rest o y c = some r) : Snd C.P p (.ops f all (o :: rest)) y r := by
 obtain ⟨h1, h2⟩ := callOp_ok H h
 refine ⟨h1, fun env s hI hw k hs => ?_⟩
 show evOps C.P (sems C.P) p all (o :: rest) s k
 have hlk := hI.ts.lk (t := t)
 rw [hk] at hlk
 simp only [InstV] at hlk
 obtain ⟨a, e1, e2⟩ := hlk
 cases e1
 rw [encD_bool] at e2
 simp only [evOps, hg, ht, e2]
 refine ⟨by
  split
  ·exact dst_lt' hd hI.n _ ‹_›
  ·trivial, ?_⟩
 have := h2 env s hI hw k hs
 cases want with
 | true => simp only [caseB_true, if_true]; rw [put_self e2 (by simp)]; exact this
 | false => simp only [caseB_false, Bool.false_eq_true, if_false]; rw [put_self e2 (by simp)]; exact this
theorem Snd.ocallG {C : Cx} {rec : Name → Task → Sy → Nat → Option Res} (H : ∀ p t y c r, rec p t y c = some r → Snd C.P p t y r) {f : FuncId} {all : Array Oper} {rest : List Oper} {o : Oper} {c c2 c3 : Nat} {lg : Log} {r1 r2 : Res} {j : Nat} {want : Bool} {t : Tmp} {x : E} (hd : dstOK y.n o.dst = true) (hg : o.guard = some (j, want)) (ht : (all[j]?).bind (·.dst) = some t) (hk : lkS t y.ts = .e .bool x)
  (h1 : callOp C rec p f all rest o (openY (if want then x else .p1 .not x) { y with ts := setS t (.e .bool (.bool want)) y.ts }) c = some r1)
  (h2 : rec p (.ops f all rest) ((shutY (if want then x else .p1 .not x) { y with ts := setS t (.e .bool (.bool !want)) y.ts }).put o.dst (.tup [])) c2 = some r2) :
  Snd C.P p (.ops f all (o :: rest)) y ⟨if want then .ite x (shiftT 0 r1.L.length r1.t) (shiftT r1.L.length r2.L.length r2.t) else .ite x (shiftT r1.L.length r2.L.length r2.t) (shiftT 0 r1.L.length r1.t), r1.L ++ r2.L, c3, lg⟩ := by
 obtain ⟨k1, k2⟩ := callOp_ok H h1
 have H2 := H _ _ _ _ _ h2
 constructor
 ·intro lf hl
  rcases List.mem_append.1 hl with hl | hl
  ·rw [k1 lf hl]; rfl
  ·rw [H2.lp lf hl, put_lpS]; rfl
 ·intro env s hI hw k hs
  show evOps C.P (sems C.P) p all (o :: rest) s k
  have hlk := hI.ts.lk (t := t)
  rw [hk] at hlk
  simp only [InstV] at hlk
  obtain ⟨b, hx, e2⟩ := hlk
  rw [encD_bool] at e2
  simp only [evOps, hg, ht, e2]
  refine ⟨by
   split
   ·exact dst_lt' hd hI.n _ ‹_›
   ·trivial, ?_⟩
  have yes : b = want → r1.t.sat (CallV C.P) noJ (LQ r1.L (leafQ fun _ => k)) env → evOp C.P (sems C.P) p o s fun s' => evOps C.P (sems C.P) p all rest s' k := fun e h => by
   refine k2 env s (openY_ok ?_ (setKnown hI (by rw [e2, e]))) hw k h
   rw [wantE_val want hx, e]; simp
  have no : b = (!want) → r2.t.sat (CallV C.P) noJ (LQ r2.L (leafQ fun _ => k)) env → evOps C.P (sems C.P) p all rest (s.put o.dst (.tup [])) k := fun e h => by
   refine H2.go env _ ((shutY_ok ?_ (setKnown hI (by rw [e2, e]))).put o.dst ⟨[], rfl, rfl⟩) hw k h
   rw [wantE_val want hx, e]; cases want <;> simp
  have hps := put_self e2 (by simp)
  cases want with
  | true =>
   simp only [if_true, T.sat] at hs
   obtain ⟨b', h3, h4, h5⟩ := hs
   rw [hx] at h3; cases h3
   cases b with
   | true => simp only [caseB_true, if_true]; rw [hps]; exact yes rfl (shift_l (h4 rfl))
   | false => simp only [caseB_false, if_true]; rw [hps]; exact no rfl (shift_r (h5 rfl))
  | false =>
   simp only [Bool.false_eq_true, if_false, T.sat] at hs
   obtain ⟨b', h3, h4, h5⟩ := hs
   rw [hx] at h3; cases h3
   cases b with
   | true => simp only [caseB_true, Bool.false_eq_true, if_false]; rw [hps]; exact no rfl (shift_r (h4 rfl))
   | false => simp only [caseB_false, Bool.false_eq_true, if_false]; rw [hps]; exact yes rfl (shift_l (h5 rfl))
theorem notNilS_ok : ∀ {z : SV} {v : V}, notNilS z = true → InstV env z v → v.notNil = true
 | .nil, v, h, _ => by cases h
 | .gd gs x, v, h, hv => by
  simp only [notNilS] at h
  simp only [InstV] at hv
  obtain ⟨b, h1, h2, h3, h4⟩ := hv
  cases b with
  | true => exact notNilS_ok h (h3 rfl)
  | false => rw [h4 rfl]; rfl
 | .e t x, v, _, hv => by simp only [InstV] at hv; obtain ⟨a, _, rfl⟩ := hv; rfl
 | .own _ _ _ _, v, _, hv => by simp only [InstV] at hv; obtain ⟨a, _, _, rfl⟩ := hv; rfl
 | .ptr _ _, v, _, hv => by simp only [InstV] at hv; subst hv; rfl
 | .aptr _ _ _ _ _ _, v, _, hv => by simp only [InstV] at hv; obtain ⟨k, j, _, _, _, rfl⟩ := hv; rfl
 | .ref _ _ _, v, _, hv => by simp only [InstV] at hv; obtain ⟨a, cs, _, rfl, _⟩ := hv; rfl
 | .fn _ _, v, _, hv => by simp only [InstV] at hv; obtain ⟨c, rfl, _⟩ := hv; rfl
 | .yld _, v, _, hv => by simp only [InstV] at hv; subst hv; rfl
 | .mref _, v, _, hv => by simp only [InstV] at hv; subst hv; rfl
 | .mpc _ _ _, v, _, hv => by simp only [InstV] at hv; obtain ⟨a, kvs, _, rfl, _⟩ := hv; rfl
 | .agg _, v, _, hv => by simp only [InstV] at hv; obtain ⟨c, rfl, _⟩ := hv; rfl
 | .mix _ _ _ _, v, _, hv => by simp only [InstV] at hv; obtain ⟨a, c, _, rfl, _⟩ := hv; rfl
 | .tup _, v, _, hv => by simp only [InstV] at hv; obtain ⟨c, rfl, _⟩ := hv; rfl
 | .kd _, v, _, hv => by simp only [InstV] at hv; subst hv; rfl
 | .vsl _, v, _, hv => by simp only [InstV] at hv; subst hv; rfl
 | .vpt _ _ _ _, v, _, hv => by simp only [InstV] at hv; obtain ⟨k, j, _, _, rfl⟩ := hv; rfl
 | .dead, v, _, hv => by simp only [InstV] at hv; subst hv; rfl
theorem notNilO_ok {x : Operand} (h : notNilO (y.get x) = true) (hI : Inst env y s) : (s.get x).notNil = true := by
 cases hx : y.get x with
 | none => rw [hx] at h; cases h
 | some z => rw [hx] at h; exact notNilS_ok h (hI.get hx)
theorem nilOKS_ok {o : Op} (h : nilOKS y o = true) (hI : Inst env y s) : nilOK s o = true := by
 cases o <;> first | rfl | exact notNilO_ok h hI
theorem segS_lp {C : Cx} {all : Array Oper} : ∀ {l : List Nat} {y : Sy} {bs : Bs} {y1 : Sy}, segS C p all l y = some (bs, y1) → y1.lp = y.lp
 | [], y, bs, y1, h => by cases h; rfl
 | i :: l, y, bs, y1, h => by
  simp only [segS] at h
  split at h
  ·split at h
   ·split at h
    ·rename_i bs1 y2 h1
     split at h
     ·rename_i bs2 y3 h2
      cases h
      rw [segS_lp h2, oneOp_lp h1]
     ·cases h
    ·cases h
   ·cases h
  ·cases h
theorem segS_ok {C : Cx} {all : Array Oper} {k : Sa → Prop} : ∀ {l : List Nat} {y : Sy} {bs : Bs} {y1 : Sy} {s : Sa} {env : List Val}, segS C p all l y = some (bs, y1) → Inst env y s → EnvWf env →
  okBs (CallV C.P) bs env (fun e => ∀ s', Inst e y1 s' → k s') → evSeg C.P p all l s k
 | [], y, bs, y1, s, env, h, hI, hw, hb => by cases h; exact hb s hI
 | i :: l, y, bs, y1, s, env, h, hI, hw, hb => by
  simp only [segS] at h
  split at h
  ·rename_i o ho
   split at h
   ·rename_i hn
    split at h
    ·rename_i bs1 y2 h1
     split at h
     ·rename_i bs2 y3 h2
      cases h
      rw [okBs_app] at hb
      simp only [evSeg, ho]
      refine ⟨nilOKS_ok hn hI, oneOp_ok pureS_semsP hI hw h1 ?_⟩
      refine okBs_mono ?_ (okBs_wf' callV_wf hw hb)
      rintro e ⟨hwe, hq⟩ s' hs'
      exact segS_ok h2 hs' hwe hq
     ·cases h
    ·cases h
   ·cases h
  ·cases h
theorem Snd.pnil {f : FuncId} {all : Array Oper} {c : Nat} : Snd P p (.plan f all []) y (one .norm .dead y c) :=
 ⟨fun lf h => by rw [one_mem h], fun env s hI hw k hs => one_sat hs s hI⟩
theorem Snd.pcalm {C : Cx} {f : FuncId} {all : Array Oper} {g : List Nat} {rest : List Seg} {bs : Bs} {y1 : Sy} {r : Res} (h : segS C p all g y = some (bs, y1)) (H : Snd C.P p (.plan f all rest) y1 r) :
  Snd C.P p (.plan f all (.calm g :: rest)) y { r with t := binds bs r.t } :=
 ⟨fun lf hl => by rw [H.lp lf hl, segS_lp h], fun env s hI hw k hs => by
  refine segS_ok h hI hw ?_
  refine okBs_mono ?_ (binds_go hw hs)
  rintro e ⟨hwe, hq⟩ s' hs'
  exact H.go e s' hs' hwe k hq⟩
theorem Snd.pbar {f : FuncId} {all : Array Oper} {i : Nat} {o : Oper} {rest : List Seg} {r r' : Res} {F : Leaf → Nat → Option Res} (ho : all[i]? = some o) (H : Snd P p (.ops f all [o]) y r) (h : thenL r F = some r')
  (hF : ∀ lf c r1, F lf c = some r1 → Snd P p (.plan f all rest) lf.s r1) : Snd P p (.plan f all (.bar i :: rest)) y r' := by
 constructor
 ·intro lf' hl
  obtain ⟨lf, h1, c1, r1, h2, h3⟩ := then_mem h lf' hl
  rw [(hF lf c1 r1 h2).lp _ h3]; exact H.lp _ h1
 ·intro env s hI hw k hs
  show evPlan P p all (.bar i :: rest) s k
  simp only [evPlan, ho]
  refine H.go env s hI hw _ (lq_mono ?_ (then_sat h hw hs))
  rintro lf hlf e ⟨hwe, c1, r1, h1, h2⟩ s' hs'
  exact (hF lf c1 r1 h1).go e s' hs' hwe k h2
theorem Snd.pfresh {C : Cx} {f : FuncId} {all : Array Oper} {g : List Nat} {i j : Nat} {oi oj : Oper} {t : Tmp} {ty ty' : TypeId} {a x : Operand} {rest : List Seg} {bs bs2 bs3 : Bs} {y1 y2 y3 : Sy} {r : Res} (hi : all[i]? = some oi) (hj : all[j]? = some oj) (ht : oi.dst = some t) (hop : oi.op = .alloc ty) (hst : oj.op = .store ty' a x)
  (hr : y.refs (t :: p) = false) (hz : (tzero C.P ty).notNil = true) (h1 : segS C p all g y = some (bs, y1)) (hx : notNilO (y1.get x) = true) (h2 : oneOp C.P C.tb p all y1 oi = some (bs2, y2)) (h3 : oneOp C.P C.tb p all y2 oj = some (bs3, y3)) (H : Snd C.P p (.plan f all rest) y3 r) :
  Snd C.P p (.plan f all (.fresh g i j :: rest)) y { r with t := binds (bs ++ (bs2 ++ bs3)) r.t } :=
 ⟨fun lf hl => by rw [H.lp lf hl, oneOp_lp h3, oneOp_lp h2, segS_lp h1], fun env s hI hw k hs => by
  show evPlan C.P p all (.fresh g i j :: rest) s k
  simp only [evPlan, hi, hj, ht, hop, hst]
  refine ⟨hI.refs hr, hz, segS_ok h1 hI hw ?_⟩
  have h0 := binds_go hw hs
  rw [okBs_app] at h0
  refine okBs_mono ?_ (okBs_wf' callV_wf hw h0)
  rintro e ⟨hwe, hq⟩ s1 hs1
  refine ⟨notNilO_ok hx hs1, oneOp_ok pureS_sems hs1 hwe h2 ?_⟩
  rw [okBs_app] at hq
  refine okBs_mono ?_ (okBs_wf' callV_wf hwe hq)
  rintro e2 ⟨hwe2, hq2⟩ s2 hs2
  refine oneOp_ok pureS_sems hs2 hwe2 h3 ?_
  refine okBs_mono ?_ hq2
  rintro e3 ⟨hwe3, hq3⟩ s3 hs3
  exact H.go e3 s3 hs3 hwe3 k hq3⟩
end
end Go.Tx
namespace Go.Tx
set_option linter.unusedVariables false
set_option linter.unusedSimpArgs false
open Go Go.Ab
section
variable {P : Program} {CS : Calls'} {env : List Val} {y : Sy} {s : Sa} {p : Name} {all : Array Oper}
theorem okBs_ext' {CS : Calls'} : ∀ {bs : Bs} {env : List Val} {Q : List Val → Prop}, okBs CS bs env Q → okBs CS bs env fun e => (∃ l, e = env ++ l) ∧ Q e
 | [], env, Q, h => ⟨⟨[], by simp⟩, h⟩
 | b :: bs, env, Q, h => by
  obtain ⟨v, h0, h1, h2⟩ := h
  refine ⟨v, h0, h1, okBs_mono ?_ (okBs_ext' h2)⟩
  rintro e ⟨⟨l, rfl⟩, hq⟩
  exact ⟨⟨v :: l, by simp⟩, hq⟩
theorem InstK.filterK {κ : Type} {env : List Val} {f : κ → Bool} : ∀ {xs : List (κ × SV)} {vs : List (κ × V)}, InstK env xs vs → InstK env (xs.filter fun x => f x.1) (vs.filter fun x => f x.1)
 | [], vs, h => by simp only [InstK] at h; subst h; simp [InstK]
 | (k, x) :: xs, vs, h => by
  simp only [InstK] at h
  obtain ⟨v, l, rfl, h1, h2⟩ := h
  simp only [List.filter_cons]
  split
  ·exact ⟨v, _, rfl, h1, h2.filterK⟩
  ·exact h2.filterK
theorem Inst.hide {H : List Name} (h : Inst env y s) : Inst env (hideY H y) (hide H s) :=
 ⟨h.g, h.rd, h.n, h.ts, h.sv, h.bx.filterK (f := fun n => !H.contains n), h.lp, h.ow, h.vc⟩
def InstEff (env : List Val) (z : SEff) (x : Eff) : Prop := x.i = z.i ∧ InstV env z.z x.v ∧ InstK env z.w x.w
theorem InstEff.app {z : SEff} {x : Eff} (l : List Val) (h : InstEff env z x) : InstEff (env ++ l) z x := ⟨h.1, h.2.1.app l, h.2.2.app l⟩
def InstEffs (env : List Val) : List SEff → List Eff → Prop
 | [], L => L = []
 | z :: zs, L => ∃ x L', L = x :: L' ∧ InstEff env z x ∧ InstEffs env zs L'
theorem InstEffs.mem : ∀ {zs : List SEff} {L : List Eff}, InstEffs env zs L → ∀ x ∈ L, ∃ z ∈ zs, InstEff env z x
 | [], L, h, x, hx => by simp only [InstEffs] at h; subst h; cases hx
 | z :: zs, L, h, x, hx => by
  obtain ⟨x', L', rfl, h1, h2⟩ := h
  rcases List.mem_cons.1 hx with rfl | hx
  ·exact ⟨z, List.mem_cons_self, h1⟩
  ·obtain ⟨z', h3, h4⟩ := h2.mem x hx
   exact ⟨z', List.mem_cons_of_mem _ h3, h4⟩
theorem consE_inv {bs : Bs} {e : SEff} {r : Option (Bs × List SEff × Sy)} {bs' : Bs} {L : List SEff} {y' : Sy} (h : consE bs e r = some (bs', L, y')) : ∃ bs2 L2, r = some (bs2, L2, y') ∧ bs' = bs ++ bs2 ∧ L = e :: L2 := by
 cases r with
 | none => cases h
 | some q => obtain ⟨a, b, c⟩ := q; cases h; exact ⟨a, b, rfl, rfl, rfl⟩
theorem lkDS_ok {d : Option Tmp} (h : Inst env y s) : InstV env (lkDS d y) (lkD d s) := by
 cases d with
 | none => rfl
 | some t => exact h.ts.lk
theorem mixS_lp {C : Cx} {H : Nat → List Name} : ∀ {l : List Nat} {y : Sy} {bs : Bs} {L : List SEff} {y1 : Sy}, mixS C p all H l y = some (bs, L, y1) → y1.lp = y.lp
 | [], y, bs, L, y1, h => by cases h; rfl
 | i :: l, y, bs, L, y1, h => by
  simp only [mixS] at h
  split at h
  ·rename_i o ho
   split at h
   ·split at h
    ·split at h
     ·split at h
      ·obtain ⟨bs2, L2, h1, _, _⟩ := consE_inv h
       rw [mixS_lp h1, put_lpS]
      ·cases h
     ·cases h
    ·cases h
   ·split at h
    ·split at h
     ·split at h
      ·obtain ⟨bs2, L2, h1, _, _⟩ := consE_inv h
       rw [mixS_lp h1]
      ·cases h
     ·cases h
    ·cases h
   ·split at h
    ·split at h
     ·rename_i bs1 y2 h2
      obtain ⟨bs2, L2, h1, _, _⟩ := consE_inv h
      rw [mixS_lp h1]
      have := oneOp_lp h2
      exact this
     ·cases h
    ·cases h
  ·cases h
theorem mixS_ok {C : Cx} {H : Nat → List Name} {k : List Eff → Sa → Prop} : ∀ {l : List Nat} {y : Sy} {bs : Bs} {L : List SEff} {y1 : Sy} {s : Sa} {env : List Val} {L0 : List Eff}, mixS C p all H l y = some (bs, L, y1) → Inst env y s → EnvWf env →
  okBs (CallV C.P) bs env (fun e => ∀ s' L', Inst e y1 s' → InstEffs e L L' → k (L0 ++ L') s') → evMix C.P p all H l L0 s k
 | [], y, bs, L, y1, s, env, L0, h, hI, hw, hb => by
  cases h
  have := hb s [] hI rfl
  simpa [evMix] using this
 | i :: l, y, bs, L, y1, s, env, L0, h, hI, hw, hb => by
  simp only [mixS] at h
  split at h
  ·rename_i o ho
   split at h
   ·rename_i ty hop
    split at h
    ·rename_i t hd hg
     split at h
     ·rename_i z hz
      split at h
      ·rename_i hc
       obtain ⟨c1, c2, c3, c4, c5⟩ := hc
       obtain ⟨bs2, L2, h1, rfl, rfl⟩ := consE_inv h
       have hv := zeroSV_ok (env := env) hz
       obtain ⟨q1, q2⟩ := sizeS_ok c4 hv
       simp only [evMix, ho, hop, hd, hg]
       refine ⟨by rw [hI.n]; exact c1, c2, notNilS_ok c3 hv, q1, q2, (hI.bx.look).2 (isNone_eq c5), ?_⟩
       have hdst : dstOf all i = some t := (dstOf_eq ho).trans hd
       have hI2 : Inst env (({ y with bx := (t :: p, z) :: y.bx } : Sy).put (some t) (.ptr (t :: p) 0)) (appE all s ⟨i, .ptr (t :: p) 0, [(t :: p, tzero C.P ty)]⟩) := by
        simp only [appE, hdst]
        have h3 : Inst env ({ y with bx := (t :: p, z) :: y.bx } : Sy) ({ s with bx := addAll [(t :: p, tzero C.P ty)] s.bx } : Sa) :=
         ⟨hI.g, hI.rd, hI.n, hI.ts, hI.sv, ⟨_, _, rfl, hv, hI.bx⟩, hI.lp, hI.ow, hI.vc⟩
        exact h3.put (some t) rfl
       refine mixS_ok h1 hI2 hw (okBs_mono ?_ (okBs_ext' hb))
       rintro e ⟨⟨ext, rfl⟩, hq⟩ s' L' hs' hL'
       have := hq s' (⟨i, .ptr (t :: p) 0, [(t :: p, tzero C.P ty)]⟩ :: L') hs' ⟨_, _, rfl, ⟨rfl, rfl, ⟨_, _, rfl, zeroSV_ok hz, rfl⟩⟩, hL'⟩
       simpa using this
      ·cases h
     ·cases h
    ·cases h
   ·rename_i ty x v hop
    split at h
    ·rename_i nm off zv hd hg hx hzv
     split at h
     ·rename_i c c' hc hst
      split at h
      ·rename_i hcc
       obtain ⟨c1, c2, c3, c4⟩ := hcc
       obtain ⟨bs2, L2, h1, rfl, rfl⟩ := consE_inv h
       have hxv := hI.get hx
       simp only [InstV] at hxv
       have hvv := hI.get hzv
       have hvc := coeS_ok (w := tyD C.P ty) hvv
       obtain ⟨cv, hcv, hcI⟩ := (hI.bx.look).1 hc
       rw [hc] at hst
       obtain ⟨k1, k2, k3⟩ := storeC_ok hst hvc hcI
       obtain ⟨q1, q2⟩ := sizeS_ok c4 hvc
       simp only [evMix, ho, hop, hd, hg, hxv, hcv]
       refine ⟨c1, notNilS_ok c2 hvv, k3, c3, q1, by rw [← q1]; exact k2, ?_⟩
       have hdst : dstOf all i = none := (dstOf_eq ho).trans hd
       have hI2 : Inst env ({ y with bx := (nm, c') :: y.bx } : Sy) (appE all s ⟨i, .dead, [(nm, storeBox off (s.get v) cv)]⟩) := by
        simp only [appE, hdst]
        exact ⟨hI.g, hI.rd, hI.n, hI.ts, hI.sv, ⟨_, _, rfl, k1, hI.bx⟩, hI.lp, hI.ow, hI.vc⟩
       refine mixS_ok h1 hI2 hw (okBs_mono ?_ (okBs_ext' hb))
       rintro e ⟨⟨ext, rfl⟩, hq⟩ s' L' hs' hL'
       have := hq s' (⟨i, .dead, [(nm, storeBox off (s.get v) cv)]⟩ :: L') hs' ⟨_, _, rfl, ⟨rfl, rfl, ⟨_, _, rfl, k1.app ext, rfl⟩⟩, hL'⟩
       simpa using this
      ·cases h
     ·cases h
    ·cases h
   ·rename_i hna hns
    split at h
    ·rename_i hcc
     obtain ⟨c1, c2, c3⟩ := hcc
     split at h
     ·rename_i bs1 y2 h2
      obtain ⟨bs2, L2, h1, rfl, rfl⟩ := consE_inv h
      have goal : calm o.op = true ∧ o.dst.isSome = true ∧ nilOK s o.op = true ∧ evOps C.P (semsP C.P) p all [o] (hide (H i) s) fun s' =>
        evMix C.P p all H l (L0 ++ [⟨i, lkD o.dst s', []⟩]) { s' with bx := s.bx } k := by
       refine ⟨c1, c2, nilOKS_ok c3 hI, oneOp_ok pureS_semsP hI.hide hw h2 ?_⟩
       rw [okBs_app] at hb
       refine okBs_mono ?_ (okBs_ext' (okBs_wf' callV_wf hw hb))
       rintro e ⟨⟨ext, rfl⟩, hwe, hq⟩ s' hs'
       simp only [evOps]
       have hI2 : Inst (env ++ ext) ({ y2 with bx := y.bx } : Sy) ({ s' with bx := s.bx } : Sa) :=
        ⟨hs'.g, hs'.rd, hs'.n, hs'.ts, hs'.sv, hI.bx.app ext, hs'.lp, hs'.ow, hs'.vc⟩
       refine mixS_ok h1 hI2 hwe (okBs_mono ?_ (okBs_ext' hq))
       rintro e2 ⟨⟨ext2, rfl⟩, hq2⟩ s2 L' hs2 hL'
       have := hq2 s2 (⟨i, lkD o.dst s', []⟩ :: L') hs2 ⟨_, _, rfl, ⟨rfl, (lkDS_ok hs').app ext2, rfl⟩, hL'⟩
       simpa using this
      unfold evMix
      rw [ho]
      simp only
      exact goal
     ·cases h
    ·cases h
  ·cases h
theorem ddN_look {α : Type} {nm : Name} : ∀ {l : List (Name × α)}, lookN nm (ddN l) = lookN nm l
 | [] => rfl
 | (n, x) :: l => by
  have hf : ∀ {l : List (Name × α)}, n ≠ nm → lookN nm (l.filter fun y => !decide (y.1 = n)) = lookN nm l := by
   intro l hne
   induction l with
   | nil => rfl
   | cons z l ih =>
    obtain ⟨a, b⟩ := z
    rw [List.filter_cons]
    by_cases e : a = n
    ·subst e
     simp only [decide_true, Bool.not_true, Bool.false_eq_true, if_false, lookN, if_neg hne]
     exact ih
    ·simp only [e, decide_false, Bool.not_false, if_true, lookN, ih]
  simp only [ddN, lookN]
  split
  ·rfl
  ·rename_i h
   rw [hf h, ddN_look]
theorem InstK.dd : ∀ {xs : List (Name × SV)} {vs : List (Name × V)}, InstK env xs vs → InstK env (ddN xs) (ddN vs)
 | [], vs, h => by simp only [InstK] at h; subst h; rfl
 | (k, x) :: xs, vs, h => by
  obtain ⟨v, l, rfl, h1, h2⟩ := h
  exact ⟨v, _, rfl, h1, (h2.dd).filterK (f := fun n => !decide (n = k))⟩
theorem InstK.keys {κ : Type} : ∀ {xs : List (κ × SV)} {vs : List (κ × V)}, InstK env xs vs → ∀ q ∈ vs, ∃ z ∈ xs, z.1 = q.1 ∧ InstV env z.2 q.2
 | [], vs, h, q, hq => by simp only [InstK] at h; subst h; cases hq
 | (k, x) :: xs, vs, h, q, hq => by
  obtain ⟨v, l, rfl, h1, h2⟩ := h
  rcases List.mem_cons.1 hq with rfl | hq
  ·exact ⟨(k, x), List.mem_cons_self, rfl, h1⟩
  ·obtain ⟨z, h3, h4⟩ := h2.keys q hq
   exact ⟨z, List.mem_cons_of_mem _ h3, h4⟩
theorem mixCB_ok {pre : Nat → List Nat} {H : Nat → List Name} {L : List SEff} {L' : List Eff} (h : mixCB all p pre H y L = true) (hI : Inst env y s) {e : List Val} (hL : InstEffs e L L') : mixC all p pre H s L' := by
 simp only [mixCB, Bool.and_eq_true] at h
 obtain ⟨h1, h2⟩ := h
 constructor
 ·intro a ha x hx hu q hq
  obtain ⟨za, m1, i1⟩ := hL.mem a ha
  obtain ⟨zx, m2, i2⟩ := hL.mem x hx
  have h3 := List.all_eq_true.1 (List.all_eq_true.1 h1 za m1) zx m2
  rw [← i1.1, ← i2.1, unordB_iff.2 hu] at h3
  simp only [Bool.not_true, Bool.false_or, List.all_eq_true] at h3
  obtain ⟨w, m3, e3, _⟩ := i2.2.2.keys q hq
  have h4 := h3 w m3
  simp only [Bool.and_eq_true, List.all_eq_true, Bool.not_eq_true', decide_eq_false_iff_not] at h4
  rw [e3] at h4
  refine ⟨h4.1, fun z hz => ?_⟩
  obtain ⟨w', m4, e4, _⟩ := i1.2.2.keys z hz
  rw [← e4]; exact h4.2 w' m4
 ·intro a ha nm hnm
  obtain ⟨za, m1, i1⟩ := hL.mem a ha
  have h3 := List.all_eq_true.1 h2 za m1
  rw [← i1.1] at h3
  have h4 := List.all_eq_true.1 h3 nm hnm
  simp only [Bool.and_eq_true, Bool.not_eq_true'] at h4
  refine ⟨hI.refs h4.1, fun x hx hne hnp => ?_⟩
  obtain ⟨zx, m2, i2⟩ := hL.mem x hx
  have h5 := List.all_eq_true.1 h4.2 zx m2
  rw [← i2.1] at h5
  simp only [Bool.or_eq_true, Bool.and_eq_true, Bool.not_eq_true', List.contains_eq_mem, decide_eq_true_eq] at h5
  rcases h5 with h5 | h5 | h5
  ·exact absurd (Nat.eq_of_beq_eq_true h5) hne
  ·exact absurd h5 hnp
  ·refine ⟨i2.2.1.refs nm h5.1, fun q hq => ?_⟩
   obtain ⟨w, m3, _, e3⟩ := i2.2.2.keys q hq
   have := List.all_eq_true.1 h5.2 w m3
   simp only [Bool.not_eq_true'] at this
   exact e3.refs nm this
theorem Snd.mix {C : Cx} {f : FuncId} {lc : LC} {lv : Lv} {id : Nat} {ops : Array Oper} {r : Res} {ord : List Nat} {c : Nat} (hm : C.P.follows .mixedOrders = true) (h : mixR C p ops ord y c = some r) :
  Snd C.P p (.code f (.region id ops true) lc lv) y (keepR lv r) := by
 unfold mixR at h
 simp only at h
 split at h
 ·rename_i hp
  split at h
  ·rename_i L0 _ h0
   split at h
   ·rename_i bs L y1 h1
    split at h
    ·rename_i hcb
     cases h
     have hlp := mixS_lp h1
     refine ⟨keepR_lp fun lf hl => ?_, fun env s hI hw R hs => ?_⟩
     ·simp only [List.mem_singleton] at hl
      subst hl
      show lpS y1.lp = lpS y.lp
      rw [hlp]
     ·refine TC_post (TC_mix ord (fun i => lookL i (preL ops ord [])) (hOf (fun i => lookL i (preL ops ord [])) L0) hm hp ?_)
      have hq := keepR_ok hs
      refine mixS_ok h1 hI hw (okBs_mono ?_ (binds_go (r := ⟨.hole 0, [⟨.norm, .dead, { y1 with bx := ddN y1.bx }⟩], c, []⟩) hw hq))
      rintro e ⟨hwe, hh⟩ s' L' hs' hL'
      rw [List.nil_append]
      refine ⟨mixCB_ok hcb hI hL', ?_⟩
      obtain ⟨lf, e1, e2⟩ := hh
      simp only [List.getElem?_cons_zero, Option.some.injEq] at e1
      subst e1
      have hI2 : Inst e ({ y1 with bx := ddN y1.bx } : Sy) ({ s' with bx := ddN s'.bx } : Sa) := ⟨hs'.g, hs'.rd, hs'.n, hs'.ts, hs'.sv, hs'.bx.dd, hs'.lp, hs'.ow, hs'.vc⟩
      obtain ⟨s2, w2, r2⟩ := e2 _ hI2
      have hE : Eqv s' ({ s' with bx := ddN s'.bx } : Sa) := ⟨rfl, rfl, rfl, fun nm => ddN_look.symm, rfl, rfl, fun _ => rfl, rfl⟩
      exact ⟨s2, Wk_trans hE.wk w2, r2⟩
    ·cases h
   ·cases h
  ·cases h
 ·cases h
end
end Go.Tx
namespace Go.Tx
set_option linter.unusedVariables false
set_option linter.unusedSimpArgs false
open Go Go.Ab
section
variable {P : Program} {CS : Calls'} {env : List Val} {y : Sy} {s : Sa} {p : Name}
theorem endL_lp {r r' : Res} (h : endL r = some r') {base : List (Name × Lp)} (hlp : ∀ lf ∈ r.L, lpS lf.s.lp = lpS base) : ∀ lf ∈ r'.L, lpS lf.s.lp = lpS base := by
 unfold endL at h
 split at h
 ·cases h
 ·cases h; exact mapL_lp (fun _ => rfl) hlp
theorem endL_sat {r r' : Res} (h : endL r = some r') {R : Sa → Prop} (hs : r'.t.sat CS noJ (LQ r'.L (leafQ fun _ => R)) env) :
  r.t.sat CS noJ (LQ r.L (leafQ fun e s' => (match e with | .exit _ => False | _ => True) ∧ R s')) env := by
 unfold endL at h
 split at h
 ·cases h
 ·rename_i hn
  cases h
  refine lq_mono ?_ (mapL_sat hs)
  intro lf hlf e hq s' hs'
  refine ⟨?_, hq s' hs'⟩
  cases he : lf.e with
  | exit i => exact hn (List.any_eq_true.2 ⟨lf, hlf, by rw [he]; rfl⟩)
  | norm => trivial
  | ret => trivial
theorem Snd.quick {C : Cx} (hsp : SpOK C.P C.sp) {g : FuncId} {args : List SV} {y1 : Sy} {z1 : SV} {bs : Bs} {c : Nat} (h : quick C p g args y = some (bs, y1, z1)) : Snd C.P p (.call g args) y ⟨binds bs (.hole 0), [⟨.norm, z1, y1⟩], c, []⟩ := by
 have hlp : y1.lp = y.lp := by
  unfold Tx.quick at h
  split at h
  ·rename_i sp hs
   cases sp with
   | clo ts te =>
    simp only [spCall] at h
    repeat' (split at h)
    all_goals first | (cases h; done) | (cases h; rfl)
   | ins ts te ti =>
    simp only [spCall] at h
    repeat' (split at h)
    all_goals first | (cases h; done) | (cases h; rfl)
  ·split at h
   ·cases h; rfl
   ·cases h
 refine ⟨fun lf hl => by rw [List.mem_singleton.1 hl]; show lpS y1.lp = _; rw [hlp], fun env s hI hw vs k hargs hs => ?_⟩
 show TCall C.P p g vs s k
 have hb := binds_go (r := ⟨.hole 0, [⟨.norm, z1, y1⟩], c, []⟩) hw hs
 unfold Tx.quick at h
 split at h
 ·rename_i sp hsg
  refine spCall_ok (hsp g sp hsg) h hI hargs (okBs_mono ?_ hb)
  rintro e ⟨hwe, hq⟩ s' v hs' hv
  obtain ⟨lf, e1, hq⟩ := hq
  simp only [List.getElem?_cons_zero, Option.some.injEq] at e1
  subst e1
  exact hq s' v hs' hv
 ·split at h
  ·rename_i bs' z hc
   cases h
   unfold callS at hc
   split at hc
   ·rename_i ts r hr
    split at hc
    ·rename_i es hes
     split at hc
     ·rename_i hro
      cases hc
      obtain ⟨us, e1, e2, e3⟩ := argsE_ok hes hargs
      obtain ⟨a, r1, r2, r3⟩ := ok_last hI.len hb
      obtain ⟨vs', x1, x2, x3⟩ := r1
      rw [e1] at x1; cases x1
      obtain ⟨hwe, lf, e4, hq⟩ := r2
      simp only [List.getElem?_cons_zero, Option.some.injEq] at e4
      subst e4
      exact TCall_pure x2 e3 (hq s _ (hI.snoc _) (resS_ok hro r3))
     ·cases hc
    ·cases hc
   ·cases hc
  ·cases h
theorem Snd.csoft {C : Cx} {g : FuncId} {args : List SV} {i : Name} {u : Ty} {q : E} {r : Res} (h : softAt C g args y = some (i, u, q)) (H : Snd P p (.call g (SV.softL i u q args)) (y.soft i) r) : Snd P p (.call g args) y r := by
 refine ⟨fun lf hl => by rw [H.lp lf hl, Sy.soft_lp], fun env s hI hw vs k hargs hs => ?_⟩
 show TCall P p g vs s k
 unfold softAt at h
 split at h
 ·split at h
  ·rename_i u' q' hl
   cases h
   obtain ⟨a, e1, e2⟩ := (hI.vc.look).1 hl
   refine TCall.soft e2 ?_
   exact H.go env _ (hI.soft _) hw _ _ (InstL.soft e1 _ hargs) hs
  ·cases h
 ·cases h
theorem Snd.pmake {C : Cx} (hsp : SpOK C.P C.sp) {f : FuncId} {all : Array Oper} {g : List Nat} {j : Nat} {rest : List Seg} {bs : Bs} {y1 : Sy} {r : Res} (h : makeS C p all g j y = some (bs, y1)) (H : Snd C.P p (.plan f all rest) y1 r) :
  Snd C.P p (.plan f all (.make g j :: rest)) y { r with t := binds bs r.t } := by
 unfold makeS at h
 split at h
 ·rename_i t fv as hco
  split at h
  ·rename_i hfr
   split at h
   ·rename_i bs0 y0 hseg
    split at h
    ·rename_i hfr1
     split at h
     ·rename_i gg x z hfv has
      split at h
      ·rename_i hcal
       split at h
       ·rename_i ts te hsg
        split at h
        ·rename_i w ye hasS
         split at h
         ·rename_i hc
          cases h
          refine ⟨fun lf hl => ?_, fun env s hI hw k hs => ?_⟩
          ·rw [H.lp lf hl, put_lpS, vturn_lp, segS_lp hseg]
          ·show evPlan C.P p all (.make g j :: rest) s k
           simp only [evPlan, hco]
           refine ⟨hI.free hfr, segS_ok hseg hI hw ?_⟩
           have h0 := binds_go hw hs
           rw [okBs_app] at h0
           refine okBs_mono ?_ (okBs_wf' callV_wf hw h0)
           rintro e ⟨hwe, hq⟩ s1 hs1
           have hst := hs1.free hfr1.1
           have hv := hs1.get hfv
           simp only [InstV] at hv
           obtain ⟨a, e1, e2⟩ := hv
           have hargs := getAll_ok (fun o x hx => hs1.get hx) has
           simp only [InstL] at hargs
           obtain ⟨v, vs', e3, h1, rfl⟩ := hargs
           obtain ⟨ys, m1, m2, m3⟩ := clo_make (y := y0) (hsp gg _ hsg) hasS hc.1 hc.2 hs1.len h1 hq
           refine ⟨hst, by rw [hs1.n]; exact hfr1.2, gg, _, _, _, e2, hcal, by rw [e3]; exact m1, m2, ?_⟩
           have h5 := hs1.vturn (t :: p) w ys (tsz C.P te) hc.1
           rw [vturn_made hst] at h5
           exact H.go _ _ (h5.put (some t) rfl) m3.1 k m3.2
         ·cases h
        ·cases h
       ·cases h
      ·cases h
     ·cases h
    ·cases h
   ·cases h
  ·cases h
 ·cases h
theorem leafU {L : List Leaf} {t : T} {J : Jt} {R : Sa → Prop} (h : t.sat CS J (LQ L (leafQ (WkQ fun _ => R))) env) : t.sat CS J (LQ L (leafQ fun _ s' => ∃ s2, Wk s' s2 ∧ R s2)) env := h
theorem lpD_of {l : List (Name × Lp)} : lpD' l = lpD l := rfl
theorem Snd.call {g : FuncId} {fn : Func} {cb : Code} {args : List SV} {lc : LC} {lv : Lv} {c0 : Nat} {r0 r1 r2 r : Res} {F : Leaf → Nat → Option Res} (hf : P.funcs[g]? = some fn) (hb : fn.body = some cb) (hle : args.length ≤ fn.ntmps)
  (H : Snd P [c0] (.code g cb lc lv) (y.push fn.ntmps args) r0) (h1 : endL r0 = some r1) (h2 : mergeAll y.g false r1 = some r2) (h : thenL r2 F = some r)
  (hF : ∀ lf c r3, F lf c = some r3 → (lf.s.sv.length = y.sv.length + 1 ∧ lpD' lf.s.lp = lpD' y.lp) ∧ ∃ vs, resV P lf.s fn.results.toList = some vs ∧ r3 = one .norm (mkResS vs) lf.s.pop c) : Snd P p (.call g args) y r := by
 have hl1 := endL_lp h1 H.lp
 have hl2 := mergeAll_lp h2 hl1
 constructor
 ·intro lf' hl
  obtain ⟨lf, k1, c1, r3, k2, k3⟩ := then_mem h lf' hl
  obtain ⟨_, vs, k4, rfl⟩ := hF lf c1 r3 k2
  rw [one_mem k3, pop_lpS]
  exact hl2 lf k1
 ·intro env s hI hw vs k hargs hs
  show TCall P p g vs s k
  refine TCall_enterT [c0] hf hb (by rw [hargs.len]; exact hle) (TC_post ?_)
  refine H.go env _ (hI.push fn.ntmps hargs) hw _ ?_
  have k1 := (mergeAll_ok callV_wf h2 hI.g hw hl1).2 (R := fun _ s' => s'.sv.length = s.sv.length + 1 ∧ lpD s'.lp = lpD s.lp ∧ resK P s' fn.results.toList fun us => k (mkRes us) s'.pop) (lq_mono (fun lf hlf e => ?_) (then_sat h hw hs))
  ·refine lq_mono ?_ (endL_sat h1 k1)
   rintro lf hlf e hq s' hs'
   obtain ⟨e1, s2, w2, e2⟩ := hq s' hs'
   exact ⟨s2, w2, e1, e2⟩
  ·rintro ⟨hwe, c1, r3, e1, e2⟩ s' hs'
   obtain ⟨⟨e3, e4⟩, us, e5, rfl⟩ := hF lf c1 r3 e1
   have e6 := one_sat e2
   refine ⟨by rw [hs'.sv.len, hI.sv.len]; exact e3, by rw [hs'.lp, hI.lp]; exact e4, resV_ok e5 hs' fun ws hws => e6 _ _ hs'.pop (mkResS_ok hws)⟩
theorem Snd.yld {l : Name} {q : Lp} {f : SFr} {fo : FuncId} {args : List SV} {lc lc' : LC} {lv lv' : Lv} {c0 : Nat} {r1 r : Res} {F : Leaf → Nat → Option Res} (hl : lookN l y.lp = some q) (hf : (framesS y).reverse[q.depth]? = some f) (hps : q.ps.toList.all (fun t => decide (t < f.n)) = true) (hlen : args.length = q.ps.size)
  (H : Snd P [c0] (.code fo q.assign lc lv) (y.round l f q.ps.toList args) r1) (h : thenL r1 F = some r)
  (hF : ∀ lf c r3, F lf c = some r3 → lf.e = .norm ∧ ∃ q1, lookN l lf.s.lp = some q1 ∧ q1.pending = none ∧ ∃ pq r2 r2' G, Snd P pq (.code fo q.body lc' lv') (lf.s.setLp l { q1 with pending := some none }) r2 ∧ mergeAll lf.s.g false r2 = some r2' ∧ thenL r2' G = some r3 ∧
   ∀ lf c r3, G lf c = some r3 → (lf.s.sv.length = y.sv.length + 1 ∧ lpD' lf.s.lp = lpD' y.lp) ∧ ∃ q2, lookN l lf.s.lp = some q2 ∧ r3 = one .norm (.e .bool (.bool (goesOn' lf.e))) (lf.s.setLp l { q2 with pending := jmp lf.e }).pop c) : Snd P p (.yld l args) y r := by
 have hlp2 : ∀ lf ∈ r1.L, ∀ c r3, F lf c = some r3 → ∀ q1, lookN l lf.s.lp = some q1 → lpS (lf.s.setLp l { q1 with pending := some none }).lp = lpS y.lp := fun lf hm c r3 _ q1 hq1 => by
  rw [show (lf.s.setLp l { q1 with pending := some none }).lp = Ab.setN l { q1 with pending := some none } lf.s.lp from rfl, lpS_setN (q := q1) (q' := { q1 with pending := some none }) ⟨rfl, rfl, rfl, rfl⟩ hq1]
  exact H.lp lf hm
 constructor
 ·intro lf' hl'
  obtain ⟨lf, k1, c1, r3, k2, k3⟩ := then_mem h lf' hl'
  obtain ⟨e1, q1, e2, e3, pq, r2, r2', G, H2, e4, e5, e6⟩ := hF lf c1 r3 k2
  obtain ⟨lf2, m1, c2, r4, m2, m3⟩ := then_mem e5 lf' k3
  obtain ⟨_, q2, m4, rfl⟩ := e6 lf2 c2 r4 m2
  rw [one_mem m3, pop_lpS, show (lf2.s.setLp l { q2 with pending := jmp lf2.e }).lp = Ab.setN l { q2 with pending := jmp lf2.e } lf2.s.lp from rfl, lpS_setN (q := q2) (q' := { q2 with pending := jmp lf2.e }) ⟨rfl, rfl, rfl, rfl⟩ m4]
  rw [mergeAll_lp e4 H2.lp lf2 m1]
  exact hlp2 lf k1 c1 r3 k2 q1 e2
 ·intro env s hI hw vs k hargs hs
  show TYld P p l vs s k
  obtain ⟨g, g1, g2, g3⟩ := hI.frame hf
  refine TYld_enterT [c0] (by rw [hI.lp]; exact hl) g1 (fun t ht => by rw [g2]; simpa using (List.all_eq_true.1 hps) t ht) (by rw [hargs.len]; exact hlen) ?_
  refine H.go env _ (hI.round l g2 g3 q.ps.toList hargs) hw _ (lq_mono ?_ (then_sat h hw hs))
  rintro lf hlf e ⟨hwe, c1, r3, e1, e2⟩ s1 hs1
  obtain ⟨a1, q1, a2, a3, pq, r2, r2', G, H2, a4, a5, a6⟩ := hF lf c1 r3 e1
  have hlS := H.lp lf hlf
  obtain ⟨q0, b1, b2, b3, b4, b5⟩ := lpS_look hlS a2
  have : (y.round l f q.ps.toList args).lp = y.lp := rfl
  rw [this, hl] at b1
  cases b1
  rw [a1]
  simp only [BeginT]
  rw [hs1.lp, a2]
  refine ⟨a3, b5.symm, ?_⟩
  refine TC_post (show TC P pq q.body _ _ from H2.go e _ (hs1.setLp l _) hwe _ ?_)
  refine (mergeAll_ok callV_wf a4 hs1.g hwe H2.lp).2 (R := EndK l s k) (lq_mono ?_ (then_sat a5 hwe e2))
  rintro lf2 hlf2 e3 ⟨hwe3, c3, r4, c4, c5⟩ s2 hs2
  obtain ⟨⟨d1, d2⟩, q2, d3, rfl⟩ := a6 lf2 c3 r4 c4
  have d4 := one_sat c5
  refine ⟨by rw [hs2.sv.len, hI.sv.len]; exact d1, by rw [hs2.lp, hI.lp]; exact d2, ?_⟩
  rw [hs2.lp, d3]
  exact d4 _ _ (hs2.setLp l _).pop (by simp only [InstV]; exact ⟨_, rfl, by rw [encD_bool]; cases lf2.e <;> rfl⟩)
theorem rds_eq (hI : Inst env y s) : rds s = rdsS y := by
 have : ∀ {xs : List SFr} {vs : List Fr}, InstF env xs vs → vs.map (·.rd) = xs.map (·.rd) := by
  intro xs
  induction xs with
  | nil => intro vs h; simp only [InstF] at h; simp [h]
  | cons x xs ih => intro vs h; simp only [InstF] at h; obtain ⟨g, l', rfl, h1, _, _, h4⟩ := h; simp [h1, ih h4]
 simp only [rds, rdsS, hI.rd, this hI.sv]
theorem Snd.range {f : FuncId} {g : Operand} {ps : Array Tmp} {a b cb : Code} {lc lcb : LC} {lv lvb : Lv} {l : Name} {gf : FuncId} {cap : List SV} {fn : Func} {c0 : Nat} {r0 r1 r2 r : Res} {F : Leaf → Nat → Option Res} (hg : y.get g = some (.fn gf cap)) (hrd : rdOKS y = true) (hrs : some l ∉ rdsS y) (hl : lookN l y.lp = none) (hy : y.ylds l = false) (hyc : SV.yldsL l cap = false)
  (hcal : callable P gf = true) (hf : P.funcs[gf]? = some fn) (hb : fn.body = some cb) (hle : (SV.yld l :: cap).length ≤ fn.ntmps) (hres : fn.results = #[]) (H : Snd P [c0] (.code gf cb lcb lvb) (y.loopIn l fn.ntmps (.yld l :: cap) ⟨y.sv.length, ps, a, b, none⟩) r0)
  (h1 : endL r0 = some r1) (h2 : mergeAll y.g false r1 = some r2) (h : thenL r2 F = some r)
  (hF : ∀ lf c r3, F lf c = some r3 → (lf.s.sv.length = y.sv.length + 1 ∧ lpD' lf.s.lp = (l, y.sv.length) :: lpD' y.lp) ∧ ∃ nm q ql, lf.s.lp = (nm, q) :: ql ∧ ∃ e, r3 = one e .dead (lf.s.loopOutR y.rd) c ∧ ((q.pending = none ∧ e = .norm) ∨ (∃ i, q.pending = some (some (.exit i)) ∧ e = .exit i) ∨ (q.pending = some (some .ret) ∧ e = .ret))) :
  Snd P p (.code f (.rangeFunc g ps a b) lc lv) y r := by
 have hl1 := endL_lp h1 H.lp
 have hl2 := mergeAll_lp h2 hl1
 constructor
 ·intro lf' hl'
  obtain ⟨lf, k1, c1, r3, k2, k3⟩ := then_mem h lf' hl'
  obtain ⟨⟨k4, _⟩, nm, q, ql, k5, e, rfl, _⟩ := hF lf c1 r3 k2
  rw [one_mem k3]
  show lpS (lf.s.loopOutR y.rd).lp = lpS y.lp
  rw [loopOutR_lpS k5 (by intro e; rw [e] at k4; simp at k4)]
  have := hl2 lf k1
  rw [k5] at this
  simp only [Sy.loopIn, lpS, List.map_cons, List.cons.injEq] at this
  exact this.2
 ·intro env s hI hw R hs
  have hgv := hI.get hg
  simp only [InstV] at hgv
  obtain ⟨cv, e1, e2⟩ := hgv
  have hrd' : s.rd = none ∨ ∃ l0 q0, s.rd = some l0 ∧ lookN l0 s.lp = some q0 ∧ some l0 ∈ s.sv.map (·.rd) := by
   rw [hI.rd, hI.lp]
   unfold rdOKS at hrd
   split at hrd
   ·rename_i e; exact .inl e
   ·rename_i l0 e
    simp only [Bool.and_eq_true, List.contains_eq_mem, decide_eq_true_eq] at hrd
    obtain ⟨q0, hq0⟩ := Option.isSome_iff_exists.1 hrd.1
    refine .inr ⟨l0, q0, e, hq0, ?_⟩
    have hrr := rds_eq hI
    simp only [rds, rdsS, List.cons.injEq] at hrr
    rw [hrr.2]; exact hrd.2
  refine TC_rangeFuncA l [c0] hrd' (by rw [rds_eq hI]; exact hrs) (by rw [hI.lp]; exact hl) (hI.ylds hy) e1 (e2.ylds l hyc) hcal hf hb (by simp only [List.length_cons] at hle ⊢; rw [e2.len]; exact hle) (TC_post ?_)
  have hargs : InstL env (.yld l :: cap) (.yld l :: cv) := ⟨_, _, rfl, rfl, e2⟩
  rw [hI.sv.len]
  refine H.go env _ (hI.loopIn l fn.ntmps hargs _) hw _ ?_
  have k1 := (mergeAll_ok callV_wf h2 hI.g hw hl1).2 (R := fun _ s' => s'.sv.length = s.sv.length + 1 ∧ lpD s'.lp = (l, s.sv.length) :: lpD s.lp ∧ match s'.lp with
   | (_, q) :: _ => match q.pending with
    | none => R .norm (s'.loopOutR s.rd)
    | some none => False
    | some (some c) => ev P (sems P) [c0] c (s'.loopOutR s.rd) R
   | [] => False) (lq_mono (fun lf hlf e => ?_) (then_sat h hw hs))
  ·refine lq_mono ?_ (endL_sat h1 k1)
   rintro lf hlf e hq s' hs'
   obtain ⟨e1, s2, w2, e2, e3, e4⟩ := hq s' hs'
   refine ⟨s2, w2, e1, e2, e3, ?_⟩
   rw [hres]
   exact e4
  ·rintro ⟨hwe, c1, r3, g1, g2⟩ s' hs'
   obtain ⟨⟨d1, d2⟩, nm, q, ql, d3, ex, rfl, d4⟩ := hF lf c1 r3 g1
   have d5 := one_sat g2 _ (hs'.loopOutR y.rd)
   rw [← hI.rd] at d5
   refine ⟨by rw [hs'.sv.len, hI.sv.len]; exact d1, by rw [hs'.lp, hI.lp, hI.sv.len]; exact d2, ?_⟩
   rw [hs'.lp, d3]
   simp only
   rcases d4 with ⟨d6, rfl⟩ | ⟨i, d6, rfl⟩ | ⟨d6, rfl⟩
   ·rw [d6]; exact d5
   ·rw [d6]; exact d5
   ·rw [d6]; exact d5
end
end Go.Tx
namespace Go.Tx
set_option linter.unusedVariables false
set_option linter.unusedSimpArgs false
open Go Go.Ab
theorem isNone_of {α : Type} {x : Option α} (h : x.isNone = true) : x = none := by cases x <;> simp_all
set_option maxHeartbeats 4000000 in
theorem cmp_sound {C : Cx} (hm : C.P.follows .mixedOrders = true) (hsp : SpOK C.P C.sp) : ∀ (n : Nat) (p : Name) (t : Task) (y : Sy) (c : Nat) (r : Res), cmp C n p t y c = some r → Snd C.P p t y r
 | 0, p, t, y, c, r, h => by simp [cmp] at h
 | n + 1, p, .code f cd lc lv, y, c, r, h => by
  have H := cmp_sound hm hsp n
  cases cd with
  | skip => simp only [cmp] at h; cases h; exact .skip
  | exit i => simp only [cmp] at h; cases h; exact .exit
  | ret => simp only [cmp] at h; cases h; exact .ret
  | region id ops b =>
   cases b with
   | false =>
    simp only [cmp] at h
    obtain ⟨r0, h1, rfl⟩ := Option.map_eq_some_iff.1 h
    exact .region (H _ _ _ _ _ h1)
   | true =>
    simp only [cmp] at h
    split at h
    ·rename_i hp
     obtain ⟨r0, h1, rfl⟩ := Option.map_eq_some_iff.1 h
     exact .draw hm hp (H _ _ _ _ _ h1)
    ·obtain ⟨r0, h1, rfl⟩ := Option.map_eq_some_iff.1 h
     exact .mix hm h1
  | seq a b =>
   simp only [cmp] at h
   split at h
   ·rename_i r0 h1
    refine .seq (lvb := lv) (lb := lc.b) (H _ _ _ _ _ h1) h ?_ ?_
    ·intro lf c r1 he hF
     simp only [he] at hF
     exact H _ _ _ _ _ hF
    ·intro lf c r1 he hF
     split at hF
     ·contradiction
     ·cases hF; rfl
   ·cases h
  | cond cd a b =>
   simp only [cmp] at h
   split at h
   ·rename_i hc; exact .cond_k hc (H _ _ _ _ _ h)
   ·rename_i hc; exact .cond_k hc (H _ _ _ _ _ h)
   ·rename_i x _ _ hc
    split at h
    ·rename_i r1 h1
     split at h
     ·rename_i r2 h2
      exact .cond hc (H _ _ _ _ _ h1) (H _ _ _ _ _ h2) h
     ·cases h
    ·cases h
   ·cases h
  | block id b =>
   simp only [cmp] at h
   split at h
   ·rename_i r0 h1
    exact .block (H _ _ _ _ _ h1) h
   ·cases h
  | loop b =>
   simp only [cmp] at h
   split at h
   ·rename_i hf
    split at h
    ·rename_i r0 h1
     have e : (headY y.g (C.hl c) (keepTs lc.l (prepY (hIds (C.hl c)) (hCv (C.hl c)) y))).1.lp = y.lp := (headY_lp (g0 := y.g) (h := C.hl c) (y := keepTs lc.l (prepY (hIds (C.hl c)) (hCv (C.hl c)) y))).trans (prepY_lp (ids := hIds (C.hl c)) (cv := hCv (C.hl c)) (y := y))
     exact Snd.loop (yL := (headY y.g (C.hl c) (keepTs lc.l (prepY (hIds (C.hl c)) (hCv (C.hl c)) y))).1) e hf.1 hf.2 (H _ _ _ _ _ h1) h
    ·cases h
   ·cases h
  | rangeFunc g ps a b =>
   simp only [cmp] at h
   split at h
   ·rename_i gf cap hg
    split at h
    ·rename_i hb
     simp only [Bool.and_eq_true, Bool.not_eq_true', List.contains_eq_mem, decide_eq_false_iff_not] at hb
     obtain ⟨⟨⟨⟨⟨b1, b2⟩, b3⟩, b4⟩, b5⟩, b6⟩ := hb
     split at h
     ·rename_i fn hfn
      split at h
      ·rename_i cb hcb
       split at h
       ·rename_i hle
        split at h
        ·rename_i r0 h0
         split at h
         ·rename_i r1 h1
          split at h
          ·rename_i r2 h2
           refine .range (l := [c, f]) hg b1 b2 (isNone_of b3) b4 b5 b6 hfn hcb hle.1 hle.2 (H _ _ _ _ _ h0) h1 h2 h ?_
           intro lf c1 r3 hF
           split at hF
           ·rename_i hlen
            refine ⟨hlen, ?_⟩
            split at hF
            ·rename_i nm q ql hlp
             refine ⟨nm, q, ql, hlp, ?_⟩
             split at hF
             ·rename_i hp; cases hF; exact ⟨_, rfl, .inl ⟨hp, rfl⟩⟩
             ·rename_i i hp; cases hF; exact ⟨_, rfl, .inr (.inl ⟨i, hp, rfl⟩)⟩
             ·rename_i hp; cases hF; exact ⟨_, rfl, .inr (.inr ⟨hp, rfl⟩)⟩
             ·cases hF
            ·cases hF
           ·cases hF
          ·cases h
         ·cases h
        ·cases h
       ·cases h
      ·cases h
     ·cases h
    ·cases h
   ·cases h
  | _ => simp [cmp] at h
 | n + 1, p, .ops f all l, y, c, r, h => by
  have H := cmp_sound hm hsp n
  cases l with
  | nil => simp only [cmp] at h; cases h; exact .onil
  | cons o rest =>
   simp only [cmp] at h
   split at h
   ·rename_i bs y1 h1
    obtain ⟨r0, h2, rfl⟩ := Option.map_eq_some_iff.1 h
    exact .oone h1 (H _ _ _ _ _ h2)
   ·split at h
    ·rename_i hd
     split at h
     ·rename_i hg
      exact .ocall H hd hg h
     ·rename_i j want hg
      split at h
      ·rename_i t ht
       split at h
       ·rename_i b hk
        split at h
        ·rename_i e; subst e
         exact .ocallK H hd hg ht hk h
        ·cases h
       ·rename_i x _ hk
        split at h
        ·rename_i r1 h1
         split at h
         ·rename_i r2 h2
          cases h
          exact .ocallG H hd hg ht hk h1 h2
         ·cases h
        ·cases h
       ·cases h
      ·cases h
    ·cases h
 | n + 1, p, .plan f all l, y, c, r, h => by
  have H := cmp_sound hm hsp n
  cases l with
  | nil => simp only [cmp] at h; cases h; exact .pnil
  | cons o rest =>
   cases o with
   | calm g =>
    simp only [cmp] at h
    split at h
    ·rename_i bs y1 h1
     obtain ⟨r0, h2, rfl⟩ := Option.map_eq_some_iff.1 h
     exact .pcalm h1 (H _ _ _ _ _ h2)
    ·cases h
   | bar i =>
    simp only [cmp] at h
    split at h
    ·rename_i o ho
     split at h
     ·rename_i r0 h1
      exact .pbar ho (H _ _ _ _ _ h1) h fun lf c r1 hF => H _ _ _ _ _ hF
     ·cases h
    ·cases h
   | make g j =>
    simp only [cmp] at h
    split at h
    ·rename_i bs y1 h1
     obtain ⟨r0, h2, rfl⟩ := Option.map_eq_some_iff.1 h
     exact .pmake hsp h1 (H _ _ _ _ _ h2)
    ·cases h
   | fresh g i j =>
    simp only [cmp] at h
    split at h
    ·rename_i oi oj hi hj
     split at h
     ·rename_i t ty _ _ x ht hop hst
      split at h
      ·rename_i hr
       split at h
       ·rename_i bs y1 h1
        split at h
        ·rename_i hx
         split at h
         ·rename_i bs2 y2 h2
          split at h
          ·rename_i bs3 y3 h3
           obtain ⟨r0, h4, rfl⟩ := Option.map_eq_some_iff.1 h
           exact .pfresh hi hj ht hop hst hr.1 hr.2 h1 hx h2 h3 (H _ _ _ _ _ h4)
          ·cases h
         ·cases h
        ·cases h
       ·cases h
      ·cases h
     ·cases h
    ·cases h
 | n + 1, p, .call g args, y, c, r, h => by
  have H := cmp_sound hm hsp n
  simp only [cmp] at h
  split at h
  ·rename_i bs y1 z1 hq
   cases h
   exact .quick hsp hq
  split at h
  ·rename_i i u q hq
   exact .csoft hq (H _ _ _ _ _ h)
  split at h
  ·rename_i fn hfn
   split at h
   ·rename_i cb hcb
    split at h
    ·rename_i hle
     split at h
     ·rename_i r0 h0
      split at h
      ·rename_i r1 h1
       split at h
       ·rename_i r2 h2
        refine .call hfn hcb hle (H _ _ _ _ _ h0) h1 h2 h ?_
        intro lf c1 r3 hF
        split at hF
        ·rename_i hlen
         split at hF
         ·rename_i vs hvs
          cases hF
          exact ⟨hlen, vs, hvs, rfl⟩
         ·cases hF
        ·cases hF
       ·cases h
      ·cases h
     ·cases h
    ·cases h
   ·cases h
  ·cases h
 | n + 1, p, .yld l args, y, c, r, h => by
  have H := cmp_sound hm hsp n
  simp only [cmp] at h
  split at h
  ·rename_i q hl
   split at h
   ·rename_i f hf
    split at h
    ·rename_i hps
     split at h
     ·rename_i r1 h1
      refine .yld (lc' := (annot q.body lv0).2) (lv' := lv0) hl hf hps.1 hps.2 (H _ _ _ _ _ h1) h ?_
      intro lf c1 r3 hF
      split at hF
      ·rename_i he
       refine ⟨he, ?_⟩
       split at hF
       ·rename_i q1 hq1
        refine ⟨q1, hq1, ?_⟩
        split at hF
        ·rename_i hpn
         refine ⟨isNone_of hpn, ?_⟩
         split at hF
         ·rename_i r2 h2
          split at hF
          ·rename_i r2' h3
           refine ⟨_, r2, r2', _, H _ _ _ _ _ h2, h3, hF, ?_⟩
           intro lf2 c2 r4 hG
           split at hG
           ·rename_i hlen
            refine ⟨hlen, ?_⟩
            split at hG
            ·rename_i q2 hq2
             cases hG
             exact ⟨q2, hq2, rfl⟩
            ·cases hG
           ·cases hG
          ·cases hF
         ·cases hF
        ·cases hF
       ·cases hF
      ·cases hF
     ·cases h
    ·cases h
   ·cases h
  ·cases h
end Go.Tx
namespace Go.Tx
set_option linter.unusedVariables false
set_option linter.unusedSimpArgs false
open Go Go.Ab
abbrev TupD : List Ty → Type
 | [] => Unit
 | [t] => t.den
 | t :: u :: ts => t.den × TupD (u :: ts)
def toVs : (ts : List Ty) → TupD ts → List Val
 | [], _ => []
 | [t], x => [⟨t, x⟩]
 | t :: u :: ts, x => ⟨t, x.1⟩ :: toVs (u :: ts) x.2
def castV (t : Ty) (v : Val) : Option t.den := if h : v.1 = t then some (h ▸ v.2) else none
def ofVs : (ts : List Ty) → List Val → Option (TupD ts)
 | [], [] => some ()
 | [t], [v] => castV t v
 | t :: u :: ts, v :: vs => match castV t v, ofVs (u :: ts) vs with
  | some a, some b => some (a, b)
  | _, _ => none
 | _, _ => none
theorem castV_eq {t : Ty} {v : Val} {x : t.den} (h : castV t v = some x) : v = ⟨t, x⟩ := by
 unfold castV at h
 split at h
 ·rename_i e; subst e; cases h; rfl
 ·cases h
theorem ofVs_eq : ∀ {ts : List Ty} {vs : List Val} {x : TupD ts}, ofVs ts vs = some x → vs = toVs ts x
 | [], [], x, h => rfl
 | [], _ :: _, x, h => by simp [ofVs] at h
 | [t], [], x, h => by simp [ofVs] at h
 | [t], [v], x, h => by
  simp only [ofVs] at h
  rw [castV_eq h]; rfl
 | [t], _ :: _ :: _, x, h => by simp [ofVs] at h
 | t :: u :: ts, [], x, h => by simp [ofVs] at h
 | t :: u :: ts, v :: vs, x, h => by
  simp only [ofVs] at h
  split at h
  ·rename_i a b h1 h2
   cases h
   rw [castV_eq h1, ofVs_eq h2]; rfl
  ·cases h
theorem toVs_ty : ∀ {ts : List Ty} {x : TupD ts}, (toVs ts x).map (·.1) = ts
 | [], _ => rfl
 | [t], _ => rfl
 | t :: u :: ts, x => by
  have := toVs_ty (ts := u :: ts) (x := x.2)
  simp only [toVs, List.map_cons, this]
section
variable {σ ρ : Type}
def iterO (body : σ → Option (σ ⊕ ρ)) : Nat → σ → Option ρ
 | 0, _ => none
 | n + 1, s => match body s with
  | none => none
  | some (.inl s') => iterO body n s'
  | some (.inr r) => some r
open Classical in
noncomputable def whileO (body : σ → Option (σ ⊕ ρ)) (s : σ) : Option ρ := if h : ∃ r n, iterO body n s = some r then some h.choose else none
theorem iterO_succ {body : σ → Option (σ ⊕ ρ)} : ∀ {n : Nat} {s : σ} {r : ρ}, iterO body n s = some r → iterO body (n + 1) s = some r
 | 0, s, r, h => by cases h
 | n + 1, s, r, h => by
  rw [iterO] at h ⊢
  split at h
  ·cases h
  ·exact iterO_succ h
  ·exact h
theorem iterO_le {body : σ → Option (σ ⊕ ρ)} {n m : Nat} {s : σ} {r : ρ} (h : iterO body n s = some r) (hm : n ≤ m) : iterO body m s = some r := by
 induction hm with
 | refl => exact h
 | step _ ih => exact iterO_succ ih
theorem whileO_iff {body : σ → Option (σ ⊕ ρ)} {s : σ} {r : ρ} : whileO body s = some r ↔ ∃ n, iterO body n s = some r := by
 unfold whileO
 constructor
 ·intro h
  split at h
  ·rename_i hh
   cases h
   exact hh.choose_spec
  ·cases h
 ·rintro ⟨n, h⟩
  have hh : ∃ r n, iterO body n s = some r := ⟨r, n, h⟩
  rw [dif_pos hh]
  obtain ⟨m, hm⟩ := hh.choose_spec
  have h1 := iterO_le h (Nat.le_max_left n m)
  have h2 := iterO_le hm (Nat.le_max_right n m)
  rw [h1] at h2
  rw [← h2]
theorem whileO_step {body : σ → Option (σ ⊕ ρ)} {s : σ} : whileO body s = match body s with
  | none => none
  | some (.inl s') => whileO body s'
  | some (.inr r) => some r := by
 apply Option.ext
 intro r
 rw [whileO_iff]
 constructor
 ·rintro ⟨n, h⟩
  cases n with
  | zero => cases h
  | succ n =>
   rw [iterO] at h
   split at h
   ·cases h
   ·exact whileO_iff.2 ⟨n, h⟩
   ·exact h
 ·intro h
  split at h
  ·cases h
  ·rename_i s' hb
   obtain ⟨n, hn⟩ := whileO_iff.1 h
   exact ⟨n + 1, by rw [iterO, hb]; exact hn⟩
  ·rename_i r' hb
   exact ⟨1, by rw [iterO, hb]; exact h⟩
end
def letJ {σ ρ : Type} (k : σ → Option ρ) (body : (σ → Option ρ) → Option ρ) : Option ρ := body k
def letV {α β : Type} (a : α) (k : α → β) : β := k a
def guardO (b : Bool) : Option Unit := if b = true then some () else none
def turn {σ ρ : Type} (s : σ) : Option (σ ⊕ ρ) := some (.inl s)
def done {σ ρ : Type} (r : Option ρ) : Option (σ ⊕ ρ) := r.map .inr
abbrev CFun := Nat → List Val → (t : Ty) → Option t.den
def castO {t u : Ty} (x : Option t.den) : Option u.den := if h : t = u then h ▸ x else none
theorem castO_eq {t u : Ty} {x : Option t.den} {y : u.den} (h : castO (u := u) x = some y) : ∃ a, x = some a ∧ (⟨t, a⟩ : Val) = ⟨u, y⟩ := by
 unfold castO at h
 split at h
 ·rename_i e; subst e; exact ⟨y, h, rfl⟩
 ·cases h
def B.run (F : CFun) (env : List Val) : B → (t : Ty) → Option t.den
 | .lets x, t => match x.val env with
  | some v => castV t v
  | none => none
 | .guard c, t => match c.val env with
  | some ⟨.bool, b⟩ => castO (t := .unit) (guardO b)
  | _ => none
 | .r2 o x y, t => match x.val env, y.val env with
  | some a, some b => match rel2 o a.1 b.1 with
   | some r => castO (r.2 a.2 b.2)
   | none => none
  | _, _ => none
 | .r3 o x y z, t => match x.val env, y.val env, z.val env with
  | some a, some b, some d => match rel3 o a.1 b.1 d.1 with
   | some r => castO (r.2 a.2 b.2 d.2)
   | none => none
  | _, _, _ => none
 | .call g args, t => match evs env args with
  | some vs => F g vs t
  | none => none
 | .list u es, t => match evs env es with
  | some vs => match castL u vs with
   | some l => if es.length ≤ 16777216 then castO (t := .sl u) (some l) else none
   | none => none
  | none => none
 | .ifb gs b u, t => if u = t then (match holds env gs with
  | some c => if c = true then b.run F env t else some t.zero
  | none => none) else none
noncomputable def T.run (F : CFun) : T → (ρ : Type) → List Val → List (List Val → Option ρ) → Option ρ
 | .fail, ρ, env, js => none
 | .hole _, ρ, env, js => none
 | .jump j es, ρ, env, js => match js[j]? with
  | some k => match evs env es with
   | some vs => k vs
   | none => none
  | none => none
 | .bind b t k, ρ, env, js => match b with
  | .lets x => match x.val env with
   | some v => match castV t v with
    | some a => letV a fun a => k.run F ρ (env ++ [⟨t, a⟩]) js
    | none => none
   | none => none
  | b => Option.bind (b.run F env t) fun a => k.run F ρ (env ++ [⟨t, a⟩]) js
 | .ite c x y, ρ, env, js => match c.val env with
  | some ⟨.bool, b⟩ => if b = true then x.run F ρ env js else y.run F ρ env js
  | _ => none
 | .letj ps k body, ρ, env, js => letJ (σ := TupD ps) (fun st => k.run F ρ (env ++ toVs ps st) js) fun j => body.run F ρ env ((fun vs => match ofVs ps vs with | some st => j st | none => none) :: js)
 | .loop ps init body, ρ, env, js => match evs env init with
  | some vs => match ofVs ps vs with
   | some st => whileO (fun st => body.run F (TupD ps ⊕ ρ) (env ++ toVs ps st) ((fun vs => match ofVs ps vs with | some st => turn st | none => none) :: js.map fun k vs => done (k vs))) st
   | none => none
  | none => none
 | .range _ _ _ _ _, ρ, env, js => none
def CFok (P : Program) (F : CFun) : Prop := ∀ g vs t x, EnvWf vs → F g vs t = some x → CallV P g vs ⟨t, x⟩
section
variable {P : Program} {F : CFun}
theorem B.run_ok (hF : CFok P F) {env : List Val} (hw : EnvWf env) : ∀ {b : B} {t : Ty} {x : t.den}, b.run F env t = some x → b.ok (CallV P) env ⟨t, x⟩ := by
 intro b
 induction b with
 | lets e =>
  intro t x h
  simp only [B.run] at h
  split at h
  ·rename_i v hv
   simp only [B.ok]
   rw [hv, castV_eq h]
  ·cases h
 | guard c =>
  intro t x h
  simp only [B.run] at h
  split at h
  ·rename_i b hb
   obtain ⟨a, h1, h2⟩ := castO_eq h
   unfold guardO at h1
   split at h1
   ·rename_i e; subst e
    simp only [B.ok]
    exact ⟨hb, h2.symm⟩
   ·cases h1
  ·cases h
 | r2 o e f =>
  intro t x h
  simp only [B.run] at h
  split at h
  ·rename_i a b ha hb
   split at h
   ·rename_i r hr
    obtain ⟨c, h1, h2⟩ := castO_eq h
    exact ⟨a, b, r, c, ha, hb, hr, h1, h2.symm⟩
   ·cases h
  ·cases h
 | r3 o e f g =>
  intro t x h
  simp only [B.run] at h
  split at h
  ·rename_i a b d ha hb hd
   split at h
   ·rename_i r hr
    obtain ⟨c, h1, h2⟩ := castO_eq h
    exact ⟨a, b, d, r, c, ha, hb, hd, hr, h1, h2.symm⟩
   ·cases h
  ·cases h
 | call g args =>
  intro t x h
  simp only [B.run] at h
  split at h
  ·rename_i vs hvs
   exact ⟨vs, hvs, hF g vs t x (evs_wf hw hvs) h⟩
  ·cases h
 | list u es =>
  intro t x h
  simp only [B.run] at h
  split at h
  ·rename_i vs hvs
   split at h
   ·rename_i l hl
    split at h
    ·rename_i hlen
     obtain ⟨c, h1, h2⟩ := castO_eq h
     cases h1
     exact ⟨vs, l, hvs, hl, hlen, h2.symm⟩
    ·cases h
   ·cases h
  ·cases h
 | ifb gs b u ih =>
  intro t x h
  simp only [B.run] at h
  split at h
  ·rename_i e
   subst e
   split at h
   ·rename_i c hc
    refine ⟨c, hc, fun e => ?_, fun e => ?_⟩
    ·rw [if_pos e] at h; exact ⟨ih h, rfl⟩
    ·rw [if_neg (by rw [e]; simp)] at h; cases h; rfl
   ·cases h
  ·cases h
theorem js_map {ρ ρ' : Type} {f : (List Val → Option ρ) → (List Val → Option ρ')} {js : List (List Val → Option ρ)} {j : Nat} {k : List Val → Option ρ'} (h : (js.map f)[j]? = some k) : ∃ k0, js[j]? = some k0 ∧ k = f k0 := by
 rw [List.getElem?_map] at h
 obtain ⟨k0, h1, rfl⟩ := Option.map_eq_some_iff.1 h
 exact ⟨k0, h1, rfl⟩
theorem T.run_sound (hF : CFok P F) {Q : Nat → List Val → Prop} : ∀ {t : T} {ρ : Type} {env : List Val} {js : List (List Val → Option ρ)} {J : Jt} {r : ρ}, EnvWf env → t.run F ρ env js = some r →
  (∀ j k vs, js[j]? = some k → WfL vs → k vs = some r → J j vs) → t.sat (CallV P) J Q env := by
 intro t
 induction t with
 | fail => intro ρ env js J r hw h hJ; simp [T.run] at h
 | hole i => intro ρ env js J r hw h hJ; simp [T.run] at h
 | jump j es =>
  intro ρ env js J r hw h hJ
  simp only [T.run] at h
  split at h
  ·rename_i k hk
   split at h
   ·rename_i vs hvs
    exact ⟨vs, hvs, hJ j k vs hk (evs_wf hw hvs) h⟩
   ·cases h
  ·cases h
 | bind b t k ih =>
  intro ρ env js J r hw h hJ
  have fin : ∀ x : t.den, b.ok (CallV P) env ⟨t, x⟩ → k.run F ρ (env ++ [⟨t, x⟩]) js = some r → (T.bind b t k).sat (CallV P) J Q env :=
   fun x hb hk => ⟨⟨t, x⟩, rfl, hb, ih (hw.snoc (B.ok_wf callV_wf hw hb)) hk hJ⟩
  simp only [T.run] at h
  split at h
  ·rename_i e
   split at h
   ·rename_i v hv
    split at h
    ·rename_i a ha
     refine fin a ?_ h
     simp only [B.ok]
     rw [hv, castV_eq ha]
    ·cases h
   ·cases h
  ·obtain ⟨x, h1, h2⟩ := Option.bind_eq_some_iff.1 h
   exact fin x (B.run_ok hF hw h1) h2
 | ite c x y ihx ihy =>
  intro ρ env js J r hw h hJ
  simp only [T.run] at h
  split at h
  ·rename_i b hb
   refine ⟨b, hb, fun e => ?_, fun e => ?_⟩
   ·rw [if_pos e] at h; exact ihx hw h hJ
   ·rw [if_neg (by rw [e]; simp)] at h; exact ihy hw h hJ
  ·cases h
 | letj ps k body ihk ihb =>
  intro ρ env js J r hw h hJ
  simp only [T.run, letJ] at h
  refine ihb hw h ?_
  intro j k' vs hk hwv hr
  cases j with
  | zero =>
   simp only [List.getElem?_cons_zero, Option.some.injEq] at hk
   subst hk; simp only at hr
   split at hr
   ·rename_i st hst
    have e := ofVs_eq hst
    subst e
    exact ⟨toVs_ty, ihk (hw.app hwv) hr hJ⟩
   ·cases hr
  | succ j => exact hJ j k' vs (by simpa using hk) hwv hr
 | loop ps init body ih =>
  intro ρ env js J r hw h hJ
  simp only [T.run] at h
  split at h
  ·rename_i vs hvs
   split at h
   ·rename_i st hst
    obtain ⟨n, hn⟩ := whileO_iff.1 h
    refine ⟨n, vs, hvs, ?_⟩
    have hwv := evs_wf hw hvs
    clear h hvs
    induction n generalizing vs st with
    | zero => cases hn
    | succ n ihn =>
     have e := ofVs_eq hst
     subst e
     refine ⟨toVs_ty, ?_⟩
     rw [iterO] at hn
     split at hn
     ·cases hn
     ·rename_i st' hb
      refine ih (hw.app hwv) hb ?_
      intro j k us hk hwu hr
      cases j with
      | zero =>
       simp only [List.getElem?_cons_zero, Option.some.injEq] at hk
       subst hk; simp only at hr
       split at hr
       ·rename_i st2 hst2
        simp only [turn, Option.some.injEq, Sum.inl.injEq] at hr
        subst hr
        exact ihn us st2 hst2 hn hwu
       ·cases hr
      | succ j =>
       obtain ⟨k0, h1, rfl⟩ := js_map (by simpa using hk)
       simp only [done] at hr
       obtain ⟨a, _, h2⟩ := Option.map_eq_some_iff.1 hr
       cases h2
     ·rename_i r' hb
      cases hn
      refine ih (hw.app hwv) hb ?_
      intro j k us hk hwu hr
      cases j with
      | zero =>
       simp only [List.getElem?_cons_zero, Option.some.injEq] at hk
       subst hk; simp only at hr
       split at hr
       ·simp [turn] at hr
       ·cases hr
      | succ j =>
       obtain ⟨k0, h1, rfl⟩ := js_map (by simpa using hk)
       simp only [done] at hr
       obtain ⟨a, h2, h3⟩ := Option.map_eq_some_iff.1 hr
       cases h3
       exact hJ j k0 us h1 hwu h2
   ·cases h
  ·cases h
 | range ps init l body done ihb ihd => intro ρ env js J r hw h hJ; simp [T.run] at h
end
end Go.Tx
namespace Go.Tx
set_option linter.unusedVariables false
set_option linter.unusedSimpArgs false
open Go Go.Ab
section
variable {P : Program} {CS : Calls'} {env : List Val} {y : Sy} {s : Sa} {p : Name}
theorem varsE_ok : ∀ (l : List Val) (pre : List Val), InstL (pre ++ l) (varsE pre.length (l.map (·.1))) (l.map fun v => V.d v.d)
 | [], pre => rfl
 | v :: l, pre => by
  have h := varsE_ok l (pre ++ [v])
  rw [List.append_assoc, List.length_append] at h
  refine ⟨_, _, rfl, ?_, h⟩
  simp only [InstV]
  refine ⟨v.2, ?_, rfl⟩
  simp [E.val]
theorem start_ok {nt : Nat} (vs : List Val) : Inst vs (startY (vs.map (·.1)) nt) (s0 nt (vs.map Val.d)) :=
 ⟨rfl, rfl, rfl, by
  have := varsE_ok vs []
  simp only [List.nil_append, List.length_nil] at this
  have h := InstK.argS 0 this
  simp only [s0, startY, List.map_map]
  exact h, rfl, rfl, rfl, rfl, rfl⟩
theorem outE_ok : ∀ {ts : List TypeId} {zs : List SV} {es : List (Ty × E)} {us : List V}, outE P ts zs = some es → InstL env zs us →
  ∃ vals : List Val, evs env (es.map (·.2)) = some vals ∧ vals.map (·.1) = es.map (·.1) ∧ toDs V.toD us = some (vals.map Val.d) ∧ ∀ r ∈ es, r.1.ag ≠ none
 | [], [], es, us, h, hI => by
  cases h
  simp only [InstL] at hI; subst hI
  exact ⟨[], rfl, rfl, rfl, by simp⟩
 | _ :: _, [], es, us, h, hI => by cases h
 | [], z :: zs, es, us, h, hI => by cases h
 | t :: ts, z :: zs, es, us, h, hI => by
  simp only [outE] at h
  simp only [InstL] at hI
  obtain ⟨v, vs', rfl, h1, h2⟩ := hI
  split at h
  ·rename_i r rs hr hrs
   split at h
   ·rename_i g hg
    cases h
    obtain ⟨vals, e1, e2, e3, e4⟩ := outE_ok hrs h2
    obtain ⟨a, b1, b2⟩ := asE_ok hr h1
    refine ⟨⟨r.1, a⟩ :: vals, ?_, by simp [e2], ?_, ?_⟩
    ·simp only [List.map_cons, evs, b1, e1]
    ·simp only [toDs, b2, e3]; rfl
    ·intro q hq
     rcases List.mem_cons.1 hq with rfl | hq
     ·rw [hg]; simp
     ·exact e4 q hq
   ·cases h
  ·cases h
theorem resD_one {t : Ty} (h : t.ag ≠ none) (a : t.den) : resD t a = [encD t a] := by
 cases t <;> first | rfl | simp [Ty.ag] at h
theorem tupE_ok : ∀ {es : List (Ty × E)} {vals : List Val}, evs env (es.map (·.2)) = some vals → vals.map (·.1) = es.map (·.1) → (∀ r ∈ es, r.1.ag ≠ none) →
  ∃ a, (tupE es).2.val env = some ⟨(tupE es).1, a⟩ ∧ resD (tupE es).1 a = vals.map Val.d
 | [], vals, h, ht, hn => by
  cases vals with
  | nil => exact ⟨(), rfl, rfl⟩
  | cons v vals => simp at ht
 | [r], vals, h, ht, hn => by
  simp only [List.map_cons, List.map_nil, evs] at h
  split at h
  ·rename_i v vs hv he
   cases he; cases h
   obtain ⟨t, a⟩ := v
   simp only [List.map_cons, List.map_nil, List.cons.injEq, and_true] at ht
   subst ht
   exact ⟨a, hv, resD_one (hn r List.mem_cons_self) a⟩
  ·cases h
 | r :: q :: rs, vals, h, ht, hn => by
  have e : (q :: rs).map (·.2) = q.2 :: rs.map (·.2) := rfl
  rw [List.map_cons, evs] at h
  split at h
  ·rename_i v vs hv he
   cases h
   obtain ⟨t, a⟩ := v
   simp only [List.map_cons, List.cons.injEq] at ht
   obtain ⟨ht1, ht2⟩ := ht
   subst ht1
   obtain ⟨b, b1, b2⟩ := tupE_ok (es := q :: rs) he (by rw [List.map_cons]; exact ht2) fun x hx => hn x (List.mem_cons_of_mem _ hx)
   refine ⟨(a, b), ?_, ?_⟩
   ·show app2 (.pair) (r.2.val env) ((tupE (q :: rs)).2.val env) = _
    rw [hv, b1]; rfl
   ·show encD r.1 a :: resD (tupE (q :: rs)).1 b = _
    rw [b2]; rfl
  ·cases h
theorem outT_ok {rs : List ResultVar} {rt : List TypeId} {rty : Ty} : ∀ {L : List Leaf} {ts : List T}, outT P rs rt rty L = some ts → ts.length = L.length ∧ ∀ (i : Nat) (lf : Leaf), L[i]? = some lf → ∃ zs es, resV P lf.s rs = some zs ∧ outE P rt zs = some es ∧ (tupE es).1 = rty ∧ ts[i]? = some (.jump 0 [(tupE es).2])
 | [], ts, h => by cases h; exact ⟨rfl, fun i lf h => by simp at h⟩
 | lf :: L, ts, h => by
  simp only [outT] at h
  split at h
  ·rename_i zs hzs
   split at h
   ·rename_i es hes
    split at h
    ·obtain ⟨ts', h1, rfl⟩ := Option.map_eq_some_iff.1 h
     rename_i ht
     obtain ⟨k1, k2⟩ := outT_ok h1
     refine ⟨by simp [k1], fun i lf' hl => ?_⟩
     cases i with
     | zero => simp at hl; subst hl; exact ⟨zs, es, hzs, hes, ht, by simp⟩
     | succ i => simpa using k2 i lf' (by simpa using hl)
    ·cases h
   ·cases h
  ·cases h
theorem cmpF_ok {C : Cx} (hm : C.P.follows .mixedOrders = true) (hsp : SpOK C.P C.sp) {n g : Nat} {as : List Ty} {rty : Ty} {t : T} {lg : Log} (h : cmpF C n g as rty = some (t, lg)) {vs : List Val} (hvs : vs.map (·.1) = as) {r : rty.den}
  (hs : EnvWf vs → t.sat (CallV C.P) (consJ (fun us => us = [⟨rty, r⟩]) noJ) (fun _ _ => False) vs) : PureOK C.P g (vs.map Val.d) (resD rty r) := by
 subst hvs
 unfold cmpF at h
 split at h
 ·rename_i fn hfn
  split at h
  ·rename_i cb hcb
   split at h
   ·rename_i hle
    split at h
    ·rename_i r0 h0
     split at h
     ·rename_i r1 h1
      split at h
      ·rename_i ts hts
       cases h
       refine PureOK.of_bodyT [0] hfn hcb (by rw [List.length_map, ← List.length_map (f := fun x : Val => x.1)]; exact hle.1) (fun hwd => TC_post ?_)
       have hw : EnvWf vs := by
        intro v hv
        obtain ⟨i, hi, rfl⟩ := List.mem_iff_getElem.1 hv
        refine Val.wf_of_d ?_ ?_
        ·have := List.all_eq_true.1 hle.2 vs[i].1 (List.mem_map_of_mem (List.getElem_mem hi))
         exact this
        ·have := hwd i (by simpa using hi)
         simpa using this
       have H := cmp_sound hm hsp _ _ _ _ _ _ h0
       refine H.go vs _ (start_ok vs) hw _ ?_
       have k0 := hs hw
       rw [T.sat_sub, T.sat_lift, cut_zero] at k0
       obtain ⟨hlen, k1⟩ := outT_ok hts
       have k2 : r1.t.sat (CallV C.P) noJ (LQ r1.L (leafQ fun _ s' => ∃ s2, Wk s' s2 ∧ resK C.P s2 fn.results.toList fun us => toDs V.toD us = some (resD rty r))) vs := by
        refine T.sat_mono (fun _ _ h => h) ?_ k0
        intro i e hq
        cases htt : ts[i]? with
        | none => simp [List.getD_eq_getElem?_getD, htt, T.sat] at hq
        | some tt =>
         have hi : i < r1.L.length := by have := (List.getElem?_eq_some_iff.1 htt).1; rw [hlen, List.length_map] at this; exact this
         obtain ⟨zs, es, q1, q2, q3, q4⟩ := k1 i (softLf r1.L[i]) (by rw [List.getElem?_map, List.getElem?_eq_getElem hi]; rfl)
         rw [htt] at q4
         cases q4
         simp only [List.getD_eq_getElem?_getD, htt, Option.getD_some, T.sat] at hq
         obtain ⟨us, u1, u2⟩ := hq
         have u2 : us = [⟨rty, r⟩] := u2
         subst u2
         refine ⟨r1.L[i], List.getElem?_eq_getElem hi, fun s' hs' => ?_⟩
         obtain ⟨s2, w2, i2⟩ := softAll_ok (ids := (r1.L[i]).s.vc.map (·.1)) hs'
         refine ⟨s2, w2, resV_ok q1 i2 fun ws hws => ?_⟩
         obtain ⟨vals, v1, v2, v3, v4⟩ := outE_ok q2 hws
         obtain ⟨a, a1, a2⟩ := tupE_ok v1 v2 v4
         simp only [evs] at u1
         split at u1
         ·rename_i v vs' w1 w2
          cases w2
          simp only [Option.some.injEq, List.cons.injEq, and_true] at u1
          subst u1
          rw [a1] at w1
          simp only [Option.some.injEq] at w1
          rw [v3, ← a2]
          congr 1
          have : ∀ {v w : Val}, v = w → resD v.1 v.2 = resD w.1 w.2 := fun e => by rw [e]
          exact this w1
         ·cases u1
       refine lq_mono ?_ (endL_sat h1 k2)
       rintro lf _ e hq s' hs'
       obtain ⟨g1, s2, w2, g2⟩ := hq s' hs'
       exact ⟨s2, w2, g1, g2⟩
      ·cases h
     ·cases h
    ·cases h
   ·cases h
  ·cases h
 ·cases h
theorem sat_const {A : Prop} : ∀ {t : T} {env : List Val}, t.sat CS (fun _ _ => A) (fun _ _ => A) env → A := by
 intro t
 induction t with
 | fail => intro env h; exact h.elim
 | hole i => intro env h; exact h
 | jump j es => intro env h; obtain ⟨vs, _, h⟩ := h; exact h
 | bind b t k ih => intro env h; obtain ⟨v, _, _, h⟩ := h; exact ih h
 | ite c x y ihx ihy => intro env h; obtain ⟨b, _, h1, h2⟩ := h; cases b with | true => exact ihx (h1 rfl) | false => exact ihy (h2 rfl)
 | letj ps k body ihk ihb =>
  intro env h
  refine ihb (T.sat_mono (t := body) ?_ (fun _ _ h => h) h)
  intro j vs hj
  cases j with
  | zero => exact ihk hj.2
  | succ j => exact hj
 | loop ps init body ih =>
  intro env h
  obtain ⟨n, vs, hv, h⟩ := h
  clear hv
  induction n generalizing vs with
  | zero => exact h.elim
  | succ n ihn =>
   refine ih (T.sat_mono (t := body) ?_ (fun _ _ h => h) h.2)
   intro j us hj
   cases j with
   | zero => exact ihn us hj
   | succ j => exact hj
 | range ps init l body done ihb ihd =>
  intro env h
  obtain ⟨t, es, vs, _, _, h⟩ := h
  have key : ∀ (es : List t.den) (i : Int) (vs : List Val), rangeN ps (fun again i x vs => body.sat CS (consJ again fun _ _ => A) (fun _ _ => A) (env ++ vs ++ [⟨.int .i64, i⟩, ⟨t, x⟩])) (fun vs => done.sat CS (fun _ _ => A) (fun _ _ => A) (env ++ vs)) es i vs → A := by
   intro es
   induction es with
   | nil => intro i vs h; exact ihd h.2
   | cons x es ihn =>
    intro i vs h
    refine ihb (T.sat_mono (t := body) ?_ (fun _ _ h => h) h.2)
    intro j us hj
    cases j with
    | zero => exact ihn _ us hj
    | succ j => exact hj
  exact key es 0 vs h
end
structure PureF (P : Program) (g : Nat) (as : List Ty) (rty : Ty) (F : TupD as → Option rty.den) : Prop where
 ok : ∀ st r, F st = some r → PureOK P g ((toVs as st).map Val.d) (resD rty r)
 wf : ∀ st r, EnvWf (toVs as st) → F st = some r → Val.wf ⟨rty, r⟩
theorem PureF.of {C : Cx} {n g : Nat} {as : List Ty} {rty : Ty} {t : T} {lg : Log} {F : CFun} {f : TupD as → Option rty.den} (hm : C.P.follows .mixedOrders = true) (hsp : SpOK C.P C.sp) (hF : CFok C.P F) (h : cmpF C n g as rty = some (t, lg))
  (hf : ∀ st, t.run F rty.den (toVs as st) [fun vs => ofVs [rty] vs] = f st) : PureF C.P g as rty f := by
 have key : ∀ st r, f st = some r → EnvWf (toVs as st) → t.sat (CallV C.P) (consJ (fun us => us = [⟨rty, r⟩]) noJ) (fun _ _ => False) (toVs as st) := by
  intro st r hr hw
  rw [← hf] at hr
  refine T.run_sound hF hw hr ?_
  intro j k vs hk hwv hkr
  cases j with
  | zero =>
   simp only [List.getElem?_cons_zero, Option.some.injEq] at hk
   subst hk
   exact ofVs_eq hkr
  | succ j => simp at hk
 constructor
 ·intro st r hr
  exact cmpF_ok hm hsp h toVs_ty (key st r hr)
 ·intro st r hw hr
  refine sat_const (CS := CallV C.P) (t := t) (env := toVs as st) (T.sat_mono ?_ ?_ (T.sat_ext callV_wf hw (key st r hr hw)))
  ·intro j vs ⟨h1, h2⟩
   cases j with
   | zero => have h2 : vs = [⟨rty, r⟩] := h2; subst h2; exact h1 _ List.mem_cons_self
   | succ j => exact h2.elim
  ·intro i e h; exact h.2.2.elim
def noC : CFun := fun _ _ _ => none
def addC (g : Nat) (as : List Ty) (rty : Ty) (f : TupD as → Option rty.den) (F : CFun) : CFun := fun g' vs t => if Nat.beq g' g = true then (match ofVs as vs with
 | some st => castO (f st)
 | none => none) else F g' vs t
theorem noC_ok {P : Program} : CFok P noC := fun g vs t x hw h => by cases h
theorem addC_ok {P : Program} {g : Nat} {as : List Ty} {rty : Ty} {f : TupD as → Option rty.den} {F : CFun} (h : PureF P g as rty f) (hF : CFok P F) : CFok P (addC g as rty f F) := by
 intro g' vs t x hw hx
 unfold addC at hx
 split at hx
 ·rename_i e
  have e := Nat.eq_of_beq_eq_true e
  subst e
  split at hx
  ·rename_i st hst
   have e := ofVs_eq hst
   subst e
   obtain ⟨a, h1, h2⟩ := castO_eq hx
   rw [← h2]
   exact ⟨h.ok st a h1, h.wf st a hw h1⟩
  ·cases hx
 ·exact hF g' vs t x hw hx
abbrev TabL := List (Nat × List Ty × Ty)
def tabOf : TabL → Tab
 | [], _ => none
 | (g, s) :: l, g' => if Nat.beq g' g = true then some s else tabOf l g'
def eqK (t : Ty) : t.den → t.den → Bool := match eqT t with
 | some f => f
 | none => fun _ _ => false
section
variable {α : Type}
def idxO (l : List α) (i : Int) : Option α := if 0 ≤ i then l[i.toNat]? else none
def aidxO {n : Nat} (f : Fin n → α) (i : Int) : Option α := if h : 0 ≤ i ∧ i.toNat < n then some (f ⟨i.toNat, h.2⟩) else none
def quoO (k : IntKind) (a b : Int) : Option Int := if b ≠ 0 then some (k.wrap (a.tdiv b)) else none
def remO (a b : Int) : Option Int := if b ≠ 0 then some (a.tmod b) else none
def shlO (k : IntKind) (a b : Int) : Option Int := if 0 ≤ b then some (k.wrap (a * 2 ^ (min b.toNat k.bits))) else none
def shrO (k : IntKind) (a b : Int) : Option Int := if 0 ≤ b then some (a.fdiv (2 ^ (min b.toNat k.bits))) else none
def appO (bytes : Nat) (a b : List α) : Option (List α) := if (a.length + b.length) * bytes ≤ 140737488355328 then some (a ++ b) else none
def slcO (l : List α) (lo hi : Int) : Option (List α) := if 0 ≤ lo ∧ lo ≤ hi ∧ hi ≤ l.length then some ((l.take hi.toNat).drop lo.toNat) else none
def lsetO (l : List α) (i : Int) (x : α) : Option (List α) := if 0 ≤ i ∧ i.toNat < l.length then some (l.set i.toNat x) else none
def insO (bytes : Nat) (l : List α) (i : Int) (ys : List α) : Option (List α) := if 0 ≤ i ∧ i ≤ l.length ∧ (l.length + ys.length) * bytes ≤ 140737488355328 then some (l.take i.toNat ++ ys ++ l.drop i.toNat) else none
def delO (l : List α) (i j : Int) : Option (List α) := if 0 ≤ i ∧ i ≤ j ∧ j ≤ l.length then some (l.take i.toNat ++ l.drop j.toNat) else none
def repO (bytes : Nat) (z : α) (n : Int) : Option (List α) := if 0 ≤ n ∧ n.toNat * bytes ≤ 140737488355328 then some (List.replicate n.toNat z) else none
def cpyO (a b : List α) : Option (List α) := some (b.take a.length ++ a.drop b.length)
def asetO {n : Nat} (f : Fin n → α) (i : Int) (x : α) : Option (Fin n → α) := if hi : 0 ≤ i ∧ i.toNat < n then some (fun j => if j = ⟨i.toNat, hi.2⟩ then x else f j) else none
end
abbrev HlL := List (Nat × Hint)
def hlOf : HlL → Nat → Option Hint
 | [], _ => none
 | (c, h) :: l, c' => if Nat.beq c' c = true then some h else hlOf l c'
abbrev PlL := List (Nat × Nat × List Seg)
def plOf : PlL → FuncId → Nat → List Seg
 | [], _, _ => []
 | (f, r, s) :: l, f', r' => if Nat.beq f' f && Nat.beq r' r then s else plOf l f' r'
abbrev SpL := List (Nat × Spec)
def spOf : SpL → FuncId → Option Spec
 | [], _ => none
 | (g, s) :: l, g' => if Nat.beq g' g = true then some s else spOf l g'
theorem spOK_nil {P : Program} : SpOK P (spOf []) := fun _ _ h => by cases h
theorem spOK_cons {P : Program} {g : Nat} {x : Spec} {l : SpL} (h : SpecOK P g x) (hl : SpOK P (spOf l)) : SpOK P (spOf ((g, x) :: l)) := fun f y hf => by
 simp only [spOf] at hf
 split at hf
 ·rename_i e
  have e := Nat.eq_of_beq_eq_true e
  subst e
  cases hf; exact h
 ·exact hl f y hf
theorem PureF.mk' {P : Program} {tb : TabL} {pl : PlL} {hl : HlL} {sp : SpL} {n g : Nat} {as : List Ty} {rty : Ty} (t : T) {F : CFun} {f : TupD as → Option rty.den} (hm : P.follows .mixedOrders = true) (hsp : SpOK P (spOf sp)) (hF : CFok P F) (h : (cmpF ⟨P, tabOf tb, plOf pl, hlOf hl, spOf sp⟩ n g as rty).map (·.1) = some t)
  (hf : ∀ st, t.run F rty.den (toVs as st) [fun vs => ofVs [rty] vs] = f st) : PureF P g as rty f := by
 obtain ⟨⟨t', lg⟩, h1, h2⟩ := Option.map_eq_some_iff.1 h
 subst h2
 exact PureF.of (C := ⟨P, tabOf tb, plOf pl, hlOf hl, spOf sp⟩) hm hsp hF h1 hf
end Go.Tx
namespace Go.Tx
open Go Go.Ab
section
variable {σ ρ α β : Type}
@[simp] theorem turn_eq (s : σ) : (turn s : Option (σ ⊕ ρ)) = some (.inl s) := rfl
@[simp] theorem done_eq (r : Option ρ) : (done r : Option (σ ⊕ ρ)) = r.map .inr := rfl
theorem letJ_eq (k : σ → Option ρ) (body : (σ → Option ρ) → Option ρ) : letJ k body = body k := rfl
theorem letV_eq {α β : Type} (a : α) (k : α → β) : letV a k = k a := rfl
theorem whileO_turn {body : σ → Option (σ ⊕ ρ)} {s s' : σ} (h : body s = turn s') : whileO body s = whileO body s' := by rw [whileO_step, h]; rfl
theorem whileO_done {body : σ → Option (σ ⊕ ρ)} {s : σ} {r : Option ρ} (h : body s = done r) : whileO body s = r := by
 rw [whileO_step, h]
 cases r <;> rfl
theorem wrap_i64 {x : Int} (h0 : -9223372036854775808 ≤ x) (h1 : x ≤ 9223372036854775807) : IntKind.wrap .i64 x = x := wrap_in (by simp [inR]; omega)
theorem idxO_nat {l : List α} {k : Nat} : idxO l (k : Int) = l[k]? := by simp [idxO]
theorem range_all {l : List α} {body : Int → Option (Int ⊕ ρ)} (p : α → Option (Option ρ)) (r : Option ρ) (hb : ∀ (k : Nat) v, l[k]? = some v → body (k : Int) = match p v with | none => none | some none => turn ((k : Int) + 1) | some (some x) => done (some x)) (he : body (l.length : Int) = done r) :
  whileO body (0 : Int) = l.foldr (fun v acc => match p v with | none => none | some none => acc | some (some x) => some x) r := by
 have key : ∀ (n k : Nat), k + n = l.length → whileO body (k : Int) = (l.drop k).foldr (fun v acc => match p v with | none => none | some none => acc | some (some x) => some x) r := by
  intro n
  induction n with
  | zero =>
   intro k hk
   rw [List.drop_eq_nil_of_le (by omega)]
   have : k = l.length := by omega
   subst this
   exact whileO_done he
  | succ n ih =>
   intro k hk
   have hlt : k < l.length := by omega
   rw [List.drop_eq_getElem_cons hlt, List.foldr_cons, ← ih (k + 1) (by omega)]
   have h := hb k l[k] (List.getElem?_eq_getElem hlt)
   split at h
   ·rw [whileO_step, h]
   ·rw [whileO_turn h]; rfl
   ·exact whileO_done h
 exact key l.length 0 (by omega)
theorem range_fold {l : List α} {body : β × Int → Option ((β × Int) ⊕ ρ)} (g : β → α → Option β) (fin : β → Option ρ) (hb : ∀ (k : Nat) v a, l[k]? = some v → body (a, (k : Int)) = Option.bind (g a v) fun a' => turn (a', (k : Int) + 1)) (he : ∀ a, body (a, (l.length : Int)) = done (fin a)) (a : β) :
  whileO body (a, (0 : Int)) = Option.bind (l.foldlM g a) fin := by
 have key : ∀ (n k : Nat) (a : β), k + n = l.length → whileO body (a, (k : Int)) = Option.bind ((l.drop k).foldlM g a) fin := by
  intro n
  induction n with
  | zero =>
   intro k a hk
   rw [List.drop_eq_nil_of_le (by omega)]
   have : k = l.length := by omega
   subst this
   exact whileO_done (he a)
  | succ n ih =>
   intro k a hk
   have hlt : k < l.length := by omega
   have h := hb k l[k] a (List.getElem?_eq_getElem hlt)
   rw [List.drop_eq_getElem_cons hlt, List.foldlM_cons]
   cases hg : g a l[k] with
   | none => rw [hg] at h; rw [whileO_step, h]; rfl
   | some a' =>
    rw [hg] at h
    rw [whileO_turn h]
    exact ih (k + 1) a' (by omega)
 exact key l.length 0 a (by omega)
theorem range_fold' {l : List α} {body : Int × β → Option ((Int × β) ⊕ ρ)} (g : β → α → Option β) (fin : β → Option ρ) (hb : ∀ (k : Nat) v a, l[k]? = some v → body ((k : Int), a) = Option.bind (g a v) fun a' => turn ((k : Int) + 1, a')) (he : ∀ a, body ((l.length : Int), a) = done (fin a)) (a : β) :
  whileO body ((0 : Int), a) = Option.bind (l.foldlM g a) fin := by
 have key : ∀ (n k : Nat) (a : β), k + n = l.length → whileO body ((k : Int), a) = Option.bind ((l.drop k).foldlM g a) fin := by
  intro n
  induction n with
  | zero =>
   intro k a hk
   rw [List.drop_eq_nil_of_le (by omega)]
   have : k = l.length := by omega
   subst this
   exact whileO_done (he a)
  | succ n ih =>
   intro k a hk
   have hlt : k < l.length := by omega
   have h := hb k l[k] a (List.getElem?_eq_getElem hlt)
   rw [List.drop_eq_getElem_cons hlt, List.foldlM_cons]
   cases hg : g a l[k] with
   | none => rw [hg] at h; rw [whileO_step, h]; rfl
   | some a' =>
    rw [hg] at h
    rw [whileO_turn h]
    exact ih (k + 1) a' (by omega)
 exact key l.length 0 a (by omega)
end
end Go.Tx
