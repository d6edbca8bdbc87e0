import Derived.Test.YtleeccmcgophfaaGreatPG
import Derived.Test.YtleeccmcgophfaaGreatPC
set_option linter.all false
namespace Go.Tx
set_option linter.unusedVariables false
set_option linter.unusedSimpArgs false
open Go Go.Ab
section
variable {P : Program} {S : Sems} {CS : Calls'} {env : List Val} {y : Sy} {s : Sa} {p : Name} {o : Oper} {k : Sa → Prop}
theorem toDs_ds (ds : List D) : toDs V.toD1 (ds.map V.d) = some ds := by
 induction ds with
 | nil => rfl
 | cons d ds ih => simp [toDs, ih, V.toD1]
theorem toDs_len {f : V → Option D} : ∀ {vs : List V} {ds : List D}, toDs f vs = some ds → ds.length = vs.length
 | [], ds, h => by cases h; rfl
 | v :: vs, ds, h => by
  simp only [toDs] at h
  split at h
  ·rename_i x xs h1 h2; cases h; simp [toDs_len h2]
  ·cases h
theorem toDs_take {f : V → Option D} : ∀ {n : Nat} {vs : List V} {ds : List D}, toDs f vs = some ds → toDs f (vs.take n) = some (ds.take n)
 | 0, vs, ds, h => by simp [toDs]
 | n + 1, [], ds, h => by cases h; simp [toDs]
 | n + 1, v :: vs, ds, h => by
  simp only [toDs] at h
  split at h
  ·rename_i x xs h1 h2; cases h; simp only [List.take_succ_cons]; exact toDs_cons h1 (toDs_take h2)
  ·cases h
theorem toDs_drop {f : V → Option D} : ∀ {n : Nat} {vs : List V} {ds : List D}, toDs f vs = some ds → toDs f (vs.drop n) = some (ds.drop n)
 | 0, vs, ds, h => h
 | n + 1, [], ds, h => by cases h; simp [toDs]
 | n + 1, v :: vs, ds, h => by
  simp only [toDs] at h
  split at h
  ·rename_i x xs h1 h2; cases h; simp only [List.drop_succ_cons]; exact toDs_drop h2
  ·cases h
theorem toDs_over {vs us : List V} {ds es : List D} {off : Nat} (h1 : toDs V.toD1 vs = some ds) (h2 : toDs V.toD1 us = some es) : toDs V.toD1 (over vs us off) = some (over ds es off) := by
 simp only [over]
 rw [toDs_len h2]
 exact toDs_app (toDs_app (toDs_take h1) h2) (toDs_drop h1)
theorem asE_cells {w : Option Ty} {z : SV} {v : V} {t : Ty} {x : E} (h : asE w z = some (t, x)) (hv : InstV env z v) : ∃ a, x.val env = some ⟨t, a⟩ ∧ toDs V.toD1 v.cells = some (enc t a) ∧ isCells v = true := by
 have h' := h
 have hv' := hv
 cases z <;> simp only [asE, asE1, reduceCtorEq] at h
 case e u q =>
  cases h; simp only [InstV] at hv; obtain ⟨a, h1, rfl⟩ := hv
  exact ⟨a, h1, by rw [cells_d, encD_cells]; exact toDs_ds _, rfl⟩
 case own i sz u q =>
  cases h; simp only [InstV] at hv; obtain ⟨a, h1, h2, rfl⟩ := hv
  exact ⟨a, h1, rfl, rfl⟩
 case nil =>
  simp only [InstV] at hv; subst hv
  split at h
  ·cases h; exact ⟨[], rfl, rfl, rfl⟩
  ·cases h
 case kd cs =>
  obtain ⟨a, h1, h2⟩ := asE_ok h' hv'
  simp only [InstV] at hv; subst hv
  simp only [V.toD, V.toD1, Option.some.injEq] at h2
  refine ⟨a, h1, ?_, rfl⟩
  rw [cells_d, D.cells_agg, ← encD_cells, ← h2]
  exact toDs_ds _
 case mix t0 x0 os zs =>
  simp only [InstV] at hv
  obtain ⟨a, c, h1, rfl, h3, h4, h5⟩ := hv
  split at h
  ·rename_i u e hp
   split at h
   ·rename_i hag
    cases h
    obtain ⟨b, r1, r2, r3⟩ := patchE_ok hp h1 h4 h3 (mix_rest h5)
    exact ⟨b, r1, r3, rfl⟩
   ·cases h
  ·cases h
 case agg cs =>
  split at h
  ·split at h
   ·rename_i w' u x' h1
    split at h
    ·rename_i ha
     cases h
     simp only [InstV] at hv
     obtain ⟨c, rfl, h2⟩ := hv
     obtain ⟨a, us, vs', e1, e2, e3, e4⟩ := chain_ok _ _ _ _ _ _ h1 h2
     simp only [InstL] at e3
     subst e3
     rw [List.append_nil] at e2
     subst e2
     exact ⟨a, e1, e4, rfl⟩
    ·cases h
   ·cases h
  ·cases h
def fillE (place : Nat → Option (Nat × Nat × Option Ty)) (t : Ty) (x : E) : List (Nat × SV) → Option (Ty × E)
 | [] => some (t, x)
 | (i, v) :: rest => match place i with
  | some (off, sz, w) => match asE w v with
   | some (u, e) => if u.size = sz then (match ty2 (.upd off) t u with
    | some t' => fillE place t' (.p2 (.upd off) x e) rest
    | none => none) else none
   | none => none
  | none => none
theorem fillE_ok {place : Nat → Option (Nat × Nat)} {pl : Nat → Option (Nat × Nat × Option Ty)} (hp : ∀ i r, pl i = some r → place i = some (r.1, r.2.1)) : ∀ {ps : List (Nat × SV)} {qs : List (Nat × V)} {t t' : Ty} {x x' : E} {a : t.den} {vs : List V},
  fillE pl t x ps = some (t', x') → InstK env ps qs → x.val env = some ⟨t, a⟩ → toDs V.toD1 vs = some (enc t a) → t.ag = some true → ∃ a' vs', fillV place vs qs = some vs' ∧ x'.val env = some ⟨t', a'⟩ ∧ toDs V.toD1 vs' = some (enc t' a') ∧ t'.ag = some true
 | [], qs, t, t', x, x', a, vs, h, hk, hx, hv, ha => by
  cases h
  simp only [InstK] at hk
  subst hk
  exact ⟨a, vs, rfl, hx, hv, ha⟩
 | (i, z) :: ps, qs, t, t', x, x', a, vs, h, hk, hx, hv, ha => by
  simp only [InstK] at hk
  obtain ⟨v, qs', rfl, h2, h3⟩ := hk
  simp only [fillE] at h
  split at h
  ·rename_i off sz w hpl
   split at h
   ·rename_i u e he
    split at h
    ·rename_i hs
     split at h
     ·rename_i t1 ht1
      obtain ⟨b, e1, e2, e3⟩ := asE_cells he h2
      obtain ⟨f, k1, k2⟩ := val2 ht1 hx e1
      obtain ⟨g1, g2, g3, g4⟩ := updF_enc _ _ _ _ _ (show updF t u off = some ⟨t1, f⟩ from k1)
      have hlen : v.cells.length = sz := by rw [← toDs_len e2, enc_len]; exact hs
      have hvl : vs.length = t.size := by rw [← toDs_len hv, enc_len]
      have hov := toDs_over (off := off) hv e2
      rw [← g4] at hov
      obtain ⟨a', vs', r1, r2⟩ := fillE_ok hp h h3 k2 hov (by rw [g3, ha])
      refine ⟨a', vs', ?_, r2⟩
      simp only [fillV, hp _ _ hpl]
      rw [if_pos ⟨e3, hlen, by omega⟩]
      simp only [over, hlen] at r1
      exact r1
     ·cases h
    ·cases h
   ·cases h
  ·cases h
def tplaceT (P : Program) (t : TypeId) (i : Nat) : Option (Nat × Nat × Option Ty) :=
 match P.underlying t with
 | some (.struct fs) => (fs[i]?).map fun f => (f.offset, tsz P f.type, tyD P f.type)
 | some (.array _ e) => some (i * tsz P e, tsz P e, tyD P e)
 | _ => none
theorem tplaceT_ok {t : TypeId} : ∀ i r, tplaceT P t i = some r → tplace P t i = some (r.1, r.2.1) := by
 intro i r h
 unfold tplaceT at h
 unfold tplace
 split at h
 ·rename_i fs hf
  obtain ⟨f, h1, rfl⟩ := Option.map_eq_some_iff.1 h
  simp only [hf, h1, Option.map_some]
 ·rename_i n e hf
  cases h
  simp only [hf]
 ·cases h
def eatsAll (w : Ty) (ds : List D) : Bool := match eatZ w ds with | some [] => true | _ => false
theorem eatsAll_ok {w : Ty} {ds : List D} (h : eatsAll w ds = true) : ds = enc w w.zero := by
 unfold eatsAll at h
 split at h
 ·rename_i he; have := eatZ_ok _ _ _ he; rwa [List.append_nil] at this
 ·cases h
def zeroOf (P : Program) (t : TypeId) : Option Ty :=
 match tyD P t with
 | some w => match tzero P t with
  | .d (.agg ds) => if w.ag = some true ∧ eatsAll w ds = true then some w else none
  | v => if isZeroV w v = true then some w else none
 | none => none
theorem zeroOf_ok {t : TypeId} {w : Ty} (h : zeroOf P t = some w) : tzero P t = .d (encD w w.zero) ∧ w.ag ≠ none := by
 unfold zeroOf at h
 split at h
 ·rename_i w' hw
  split at h
  ·rename_i ds hd
   split at h
   ·rename_i hc
    cases h
    obtain ⟨h1, h2⟩ := hc
    rw [hd, encD_ag h1, eatsAll_ok h2]; exact ⟨rfl, by simp [h1]⟩
   ·cases h
  ·split at h
   ·rename_i hc
    cases h
    obtain ⟨h1, h2⟩ := isZeroV_ok hc
    exact ⟨h1, by simp [h2]⟩
   ·cases h
 ·cases h
def buildS (P : Program) (t : TypeId) (ps : List (Nat × SV)) : Option SV :=
 match zeroOf P t with
 | some w => if w.ag = some true then (fillE (tplaceT P t) w (.zero w) ps).map fun r => .e r.1 r.2 else none
 | none => none
theorem buildS_ok {t : TypeId} {parts : Array (Nat × Operand)} {ps : List (Nat × SV)} {z : SV} (hop : o.op = .build t parts) (ht : tbuild P t = true) (h : buildS P t ps = some z) (hk : InstK env ps (parts.toList.map fun x => (x.1, s.get x.2))) (hb : Nx o s k z env) : evOp P S p o s k := by
 unfold buildS at h
 split at h
 ·rename_i w hw
  split at h
  ·rename_i ha
   obtain ⟨⟨t', x'⟩, h1, h2⟩ := Option.map_eq_some_iff.1 h
   cases h2
   obtain ⟨hz, _⟩ := zeroOf_ok hw
   obtain ⟨a', vs', r1, r2, r3, r4⟩ := fillE_ok (fun i r h => tplaceT_ok i r h) h1 hk (a := w.zero) rfl (vs := (tzero P t).cells) (by rw [hz, cells_d, encD_cells]; exact toDs_ds _) ha
   simp only [evOp, hop]
   refine ⟨ht, by rw [hz]; rfl, ?_⟩
   rw [r1]
   refine hb _ ?_
   simp only [mkAgg, r3, InstV]
   exact ⟨a', r2, by rw [encD_ag r4]⟩
  ·cases h
 ·cases h
def isPatch : SV → Bool
 | .nil => true
 | z => firm z
theorem isPatch_single {z : SV} (h : isPatch z = true) : single z = true := by
 cases z <;> first | rfl | exact firm_single h
def fillM (place : Nat → Option (Nat × Nat × Option Ty)) (t : Ty) (x : E) (os : List Nat) (zs : List SV) : List (Nat × SV) → Option (Ty × E × List Nat × List SV)
 | [] => some (t, x, os, zs)
 | (i, v) :: rest => match place i with
  | some (off, sz, w) => if isPatch v = true then (if sz = 1 ∧ off + 1 ≤ t.size then fillM place t x (off :: (keepP off 1 os zs).1) (v :: (keepP off 1 os zs).2) rest else none)
   else match asD' w v with
    | some (u, e) => if u.size = sz then (match ty2 (.upd off) t u with
     | some t' => fillM place t' (.p2 (.upd off) x e) (keepP off sz os zs).1 (keepP off sz os zs).2 rest
     | none => none) else none
    | none => none
  | none => none
theorem fillM_ok {place : Nat → Option (Nat × Nat)} {pl : Nat → Option (Nat × Nat × Option Ty)} (hp : ∀ i r, pl i = some r → place i = some (r.1, r.2.1)) : ∀ {ps : List (Nat × SV)} {qs : List (Nat × V)} {t : Ty} {x : E} {os : List Nat} {zs : List SV} {r : Ty × E × List Nat × List SV} {a : t.den} {c : List V},
  fillM pl t x os zs ps = some r → InstK env ps qs → x.val env = some ⟨t, a⟩ → c.length = t.size → InstP env os zs c → (∀ i, i < t.size → i ∉ os → c[i]? = ((enc t a)[i]?).map V.d) → t.ag = some true →
  ∃ c', fillV place c qs = some c' ∧ InstV env (.mix r.1 r.2.1 r.2.2.1 r.2.2.2) (.agg c') ∧ r.1.ag = some true
 | [], qs, t, x, os, zs, r, a, c, h, hk, hx, hl, hP, hr, ha => by
  cases h
  simp only [InstK] at hk
  subst hk
  exact ⟨c, rfl, by simp only [InstV]; exact ⟨a, c, hx, rfl, hl, hP, hr⟩, ha⟩
 | (i, z) :: ps, qs, t, x, os, zs, r, a, c, h, hk, hx, hl, hP, hr, ha => by
  simp only [InstK] at hk
  obtain ⟨v, qs', rfl, h2, h3⟩ := hk
  simp only [fillM] at h
  split at h
  ·rename_i off sz w hpl
   split at h
   ·rename_i hpat
    split at h
    ·rename_i hc
     obtain ⟨e1, e2⟩ := single_cells (isPatch_single hpat) h2
     have hlen : off + [v].length ≤ c.length := by rw [hl]; exact hc.2
     obtain ⟨q1, q2⟩ := keepP_ok (xs := [v]) hP hlen
     simp only [List.length_cons, List.length_nil, Nat.zero_add] at q1 q2 hlen
     obtain ⟨c', r1, r2⟩ := fillM_ok hp (c := over c [v] off) h h3 hx (by rw [over_len hlen]; exact hl) ⟨off, _, rfl, ⟨v, by rw [over_get hlen, if_pos rfl], h2⟩, q1⟩ (fun i hi hn => by
      simp only [List.mem_cons, not_or] at hn
      rw [over_get hlen, if_neg hn.1]
      exact hr i hi fun hm => by have := q2 i hn.2 hm; omega) ha
     refine ⟨c', ?_, r2⟩
     simp only [fillV, hp _ _ hpl]
     rw [if_pos ⟨single_isCells (isPatch_single hpat) h2, by rw [e1]; exact hc.1.symm, by rw [hc.1]; exact hlen⟩]
     rw [e1, hc.1]
     exact r1
    ·cases h
   ·split at h
    ·rename_i u e he
     split at h
     ·rename_i hs
      split at h
      ·rename_i t1 ht1
       obtain ⟨b, e1, e2⟩ := asD'_ok he h2
       obtain ⟨f, k1, k2⟩ := val2 ht1 hx e1
       obtain ⟨g1, g2, g3, g4⟩ := updF_enc _ _ _ _ _ (show updF t u off = some ⟨t1, f⟩ from k1)
       have hcv : v.cells = (enc u b).map V.d := by rw [e2, cells_d, encD_cells]
       have hxl : ((enc u b).map V.d).length = sz := by rw [List.length_map, enc_len]; exact hs
       have hlen : off + ((enc u b).map V.d).length ≤ c.length := by rw [hxl, hl]; omega
       obtain ⟨q1, q2⟩ := keepP_ok (xs := (enc u b).map V.d) hP hlen
       rw [hxl] at q1 q2
       obtain ⟨c', r1, r2⟩ := fillM_ok hp (c := over c ((enc u b).map V.d) off) h h3 k2 (by rw [over_len hlen, hl, g2]) q1 (fun i hi hn => by
        rw [g4]
        by_cases hin : off ≤ i ∧ i < off + sz
        ·rw [over_in hin.1 (by rw [hxl]; exact hin.2) hlen, over_in hin.1 (by rw [enc_len, hs]; exact hin.2) (by rw [enc_len, enc_len]; exact g1), List.getElem?_map]
        ·rw [over_out (by rw [hxl]; omega) hlen, over_out (by rw [enc_len, hs]; omega) (by rw [enc_len, enc_len]; exact g1)]
         exact hr i (by omega) fun hm => hin (q2 i hn hm)) (by rw [g3, ha])
       refine ⟨c', ?_, r2⟩
       simp only [fillV, hp _ _ hpl]
       rw [if_pos ⟨by rw [e2]; rfl, by rw [hcv]; exact hxl, by rw [hxl] at hlen; exact hlen⟩]
       rw [hcv]
       simp only [over, hxl] at r1
       exact r1
      ·cases h
     ·cases h
    ·cases h
  ·cases h
def buildG (P : Program) (t : TypeId) (ps : List (Nat × SV)) : Option SV :=
 match zeroOf P t with
 | some w => if w.ag = some true then (match fillM (tplaceT P t) w (.zero w) [] [] ps with
  | some (t', x', os, zs) => if zs.any solid = true then some (.mix t' x' os zs) else none
  | none => none) else none
 | none => none
theorem buildG_ok {t : TypeId} {parts : Array (Nat × Operand)} {ps : List (Nat × SV)} {z : SV} (hop : o.op = .build t parts) (ht : tbuild P t = true) (h : buildG P t ps = some z) (hk : InstK env ps (parts.toList.map fun x => (x.1, s.get x.2))) (hb : Nx o s k z env) : evOp P S p o s k := by
 unfold buildG at h
 split at h
 ·rename_i w hw
  split at h
  ·rename_i ha
   split at h
   ·rename_i t' x' os zs hf
    split at h
    ·rename_i hsol
     cases h
     obtain ⟨hz, _⟩ := zeroOf_ok hw
     obtain ⟨c', r1, r2, r3⟩ := fillM_ok (fun i r h => tplaceT_ok i r h) hf hk (a := w.zero) rfl (c := (enc w w.zero).map V.d) (by rw [List.length_map, enc_len]) rfl (fun i _ _ => by rw [List.getElem?_map]) ha
     simp only [evOp, hop]
     refine ⟨ht, by rw [hz]; rfl, ?_⟩
     rw [hz, cells_d, encD_cells, r1]
     have r2' := r2
     simp only [InstV] at r2
     obtain ⟨a, c, g1, g2, g3, g4, g5⟩ := r2
     cases g2
     have := InstP.solid_none (f := V.toD1) (fun x v h1 h2 => (solid_none h1 h2).1) g4 hsol
     refine hb _ ?_
     simp only [mkAgg, this]
     exact r2'
    ·cases h
   ·cases h
  ·cases h
 ·cases h
def allE (t : Ty) : List SV → Option (List E)
 | [] => some []
 | z :: zs => match asE (some t) z, allE t zs with
  | some (u, e), some es => if u = t then some (e :: es) else none
  | _, _ => none
theorem allE_ok {t : Ty} : ∀ {zs : List SV} {vs : List V} {es : List E}, allE t zs = some es → InstL env zs vs → ∃ l : List t.den, evs env es = some (l.map fun x => (⟨t, x⟩ : Val)) ∧ toDs V.toD vs = some (l.map (encD t))
 | [], vs, es, h, hl => by
  cases h
  simp only [InstL] at hl
  subst hl
  exact ⟨[], rfl, rfl⟩
 | z :: zs, vs, es, h, hl => by
  simp only [InstL] at hl
  obtain ⟨v, vs', rfl, h2, h3⟩ := hl
  simp only [allE] at h
  split at h
  ·rename_i u e es' h4 h5
   split at h
   ·rename_i hu
    subst hu
    cases h
    obtain ⟨a, e1, e2⟩ := asE_ok h4 h2
    obtain ⟨l, e3, e4⟩ := allE_ok h5 h3
    exact ⟨a :: l, by simp [evs, e1, e3], toDs_cons e2 e4⟩
   ·cases h
  ·cases h
theorem castL_map {t : Ty} (l : List t.den) : castL t (l.map fun x => (⟨t, x⟩ : Val)) = some l := by
 induction l with
 | nil => rfl
 | cons x l ih => simp [castL, ih]
def listS (P : Program) (nv : Nat) (t : TypeId) (len : Nat) (ids : List Nat) (zs : List SV) : Option (List (B × Ty) × SV) :=
 match telem P t with
 | some e => match tyD P e with
  | some w => if w.size = tsz P e ∧ tsz P e ≠ 0 ∧ isCells (tzero P e) = true ∧ len * tsz P e ≤ 16777216 ∧ ids = List.range len ∧ len ≠ 0 then (allE w zs).map fun es => ([(.list w es, .sl w)], .e (.sl w) (.var nv)) else none
  | none => none
 | none => none
theorem listS_ok {t : TypeId} {len : Nat} {parts : Array (Nat × Operand)} {zs : List SV} {z : SV} {bs : List (B × Ty)} (hop : o.op = .buildSlice t len parts) (h : listS P y.g.length t len (parts.toList.map (·.1)) zs = some (bs, z)) (hI : Inst env y s)
  (hl : InstL env zs (parts.toList.map fun x => s.get x.2)) (hb : okBs CS bs env (Nx o s k z)) : evOp P S p o s k := by
 unfold listS at h
 split at h
 ·rename_i e he
  split at h
  ·rename_i w hw
   split at h
   ·rename_i hc
    obtain ⟨es, h1, h2⟩ := Option.map_eq_some_iff.1 h
    cases h2
    obtain ⟨l, e1, e2⟩ := allE_ok h1 hl
    obtain ⟨c, r1, r2, r3⟩ := ok_last hI.len hb
    obtain ⟨vs, l', x1, x2, x3, x4⟩ := r1
    rw [e1] at x1; cases x1
    rw [castL_map] at x2; cases x2
    cases x4
    simp only [evOp, hop, he, e2]
    refine ⟨hc.2.1, hc.2.2.1, hc.2.2.2.1, hc.2.2.2.2.1, fun d hd => ?_, ?_⟩
    ·obtain ⟨q, _, rfl⟩ := List.mem_map.1 hd
     rw [encD_cells, enc_len]; exact hc.1
    ·rw [if_neg hc.2.2.2.2.2]
     exact r2 _ (by simp only [InstV]; exact ⟨_, r3, rfl⟩)
   ·cases h
  ·cases h
 ·cases h
def resD : (t : Ty) → t.den → List D
 | .unit, _ => []
 | .prod a b, x => encD a x.1 :: resD b x.2
 | t, x => [encD t x]
def notUnit : Ty → Bool
 | .unit => false
 | _ => true
def resOK : Ty → Bool
 | .unit => true
 | .prod a b => decide (a.ag ≠ none) && notUnit b && resOK b
 | t => decide (t.ag ≠ none)
def resL : Ty → E → List SV
 | .unit, _ => []
 | .prod a b, x => .e a (.p1 .fst x) :: resL b (.p1 .snd x)
 | t, x => [.e t x]
def resS (t : Ty) (x : E) : SV := match t with
 | .unit => .tup []
 | .prod a b => .tup (resL (.prod a b) x)
 | t => .e t x
theorem resL_ok : ∀ (t : Ty) (x : E) (a : t.den), x.val env = some ⟨t, a⟩ → InstL env (resL t x) ((resD t a).map V.d) := by
 intro t
 induction t with
 | prod a b iha ihb =>
  intro x c hx
  simp only [resL, resD, List.map_cons, InstL]
  refine ⟨_, _, rfl, ?_, ihb _ _ (by simp [E.val, app1, hx, prim1])⟩
  simp only [InstV]
  exact ⟨_, by simp only [E.val, app1, hx, prim1, Option.map_some], rfl⟩
 | unit => intro x c hx; simp [resL, resD, InstL]
 | int q => intro x c hx; exact ⟨_, _, rfl, ⟨c, hx, rfl⟩, rfl⟩
 | bool => intro x c hx; exact ⟨_, _, rfl, ⟨c, hx, rfl⟩, rfl⟩
 | str => intro x c hx; exact ⟨_, _, rfl, ⟨c, hx, rfl⟩, rfl⟩
 | cst q => intro x c hx; exact ⟨_, _, rfl, ⟨c, hx, rfl⟩, rfl⟩
 | st q _ => intro x c hx; exact ⟨_, _, rfl, ⟨c, hx, rfl⟩, rfl⟩
 | arr n q _ => intro x c hx; exact ⟨_, _, rfl, ⟨c, hx, rfl⟩, rfl⟩
 | sl q _ => intro x c hx; exact ⟨_, _, rfl, ⟨c, hx, rfl⟩, rfl⟩
 | mp q u _ => intro x c hx; exact ⟨_, _, rfl, ⟨c, hx, rfl⟩, rfl⟩
theorem resD_pos {b : Ty} {x : b.den} (h : notUnit b = true) : resD b x ≠ [] := by
 cases b with
 | unit => cases h
 | prod c d => exact List.cons_ne_nil _ _
 | int q => exact List.cons_ne_nil _ _
 | bool => exact List.cons_ne_nil _ _
 | str => exact List.cons_ne_nil _ _
 | cst q => exact List.cons_ne_nil _ _
 | st q => exact List.cons_ne_nil _ _
 | arr n q => exact List.cons_ne_nil _ _
 | sl q => exact List.cons_ne_nil _ _
 | mp q u => exact List.cons_ne_nil _ _
theorem resS_ok {t : Ty} {x : E} {a : t.den} (ht : resOK t = true) (hx : x.val env = some ⟨t, a⟩) : InstV env (resS t x) (mkRes ((resD t a).map V.d)) := by
 have hl := resL_ok t x a hx
 cases t with
 | prod b c =>
  have ht' : (decide (b.ag ≠ none) && notUnit c && resOK c) = true := ht
  rw [Bool.and_eq_true, Bool.and_eq_true] at ht'
  have hp := resD_pos (x := a.2) ht'.1.2
  have e : mkRes ((resD (.prod b c) a).map V.d) = .tup ((resD (.prod b c) a).map V.d) := by
   unfold mkRes
   split
   ·rename_i v hv
    exfalso
    have hv' : V.d (encD b a.1) :: (resD c a.2).map V.d = [v] := hv
    rw [List.cons.injEq, List.map_eq_nil_iff] at hv'
    exact hp hv'.2
   ·rfl
  rw [e]
  exact ⟨_, rfl, hl⟩
 | unit => exact ⟨[], rfl, rfl⟩
 | int q => exact ⟨a, hx, rfl⟩
 | bool => exact ⟨a, hx, rfl⟩
 | str => exact ⟨a, hx, rfl⟩
 | cst q => exact ⟨a, hx, rfl⟩
 | st q => exact ⟨a, hx, rfl⟩
 | arr n q => exact ⟨a, hx, rfl⟩
 | sl q => exact ⟨a, hx, rfl⟩
 | mp q u => exact ⟨a, hx, rfl⟩
def CallV (P : Program) : Calls' := fun g vs v => PureOK P g (vs.map Val.d) (resD v.1 v.2) ∧ v.wf
theorem callV_wf : CallsWf (CallV P) := fun _ _ _ h => h.2
def argsE : List Ty → List SV → Option (List E)
 | [], [] => some []
 | t :: ts, z :: zs => match asE (some t) z, argsE ts zs with
  | some (u, e), some es => if u = t then some (e :: es) else none
  | _, _ => none
 | _, _ => none
theorem argsE_ok : ∀ {ts : List Ty} {zs : List SV} {vs : List V} {es : List E}, argsE ts zs = some es → InstL env zs vs → ∃ us : List Val, evs env es = some us ∧ us.map (·.1) = ts ∧ toDs V.toD vs = some (us.map Val.d)
 | [], [], vs, es, h, hl => by
  cases h
  simp only [InstL] at hl
  subst hl
  exact ⟨[], rfl, rfl, rfl⟩
 | t :: ts, z :: zs, vs, es, h, hl => by
  simp only [InstL] at hl
  obtain ⟨v, vs', rfl, h2, h3⟩ := hl
  simp only [argsE] at h
  split at h
  ·rename_i u e es' h4 h5
   split at h
   ·rename_i hu
    subst hu
    cases h
    obtain ⟨a, e1, e2⟩ := asE_ok h4 h2
    obtain ⟨us, e3, e4, e5⟩ := argsE_ok h5 h3
    exact ⟨⟨u, a⟩ :: us, by simp [evs, e1, e3], by simp [e4], toDs_cons e2 e5⟩
   ·cases h
  ·cases h
 | [], _ :: _, vs, es, h, hl => by simp [argsE] at h
 | _ :: _, [], vs, es, h, hl => by simp [argsE] at h
abbrev Tab := Nat → Option (List Ty × Ty)
def callS (tb : Tab) (nv : Nat) (g : Nat) (zs : List SV) : Option (List (B × Ty) × SV) :=
 match tb g with
 | some (ts, r) => match argsE ts zs with
  | some es => if resOK r = true then some ([(.call g es, r)], resS r (.var nv)) else none
  | none => none
 | none => none
def PureS (P : Program) (S : Sems) : Prop := ∀ p g args s k ds rs, toDs V.toD args = some ds → PureOK P g ds rs → k (mkRes (rs.map .d)) s → S.call p g args s k
theorem pureS_sems : PureS P (sems P) := fun p g args s k ds rs h1 h2 h3 => TCall_pure (p := p) h2 h1 h3
theorem pureS_semsP : PureS P (semsP P) := fun p g args s k ds rs h1 h2 h3 => PCall_pure h2 h1 h3
theorem callS_ok {c : Call} {f : Operand} {g : Nat} {tb : Tab} {zs : List SV} {z : SV} {bs : List (B × Ty)} (hS : PureS P S) (hop : o.op = .call c) (hc : c.callee = .value f) (hf : s.get f = .d (.v (.func (.func g) #[] #[]))) (hcal : callable P g = true) (h : callS tb y.g.length g zs = some (bs, z))
  (hI : Inst env y s) (hl : InstL env zs (c.args.toList.map s.get)) (hd : ∀ d, o.dst = some d → d < s.n) (hb : okBs (CallV P) bs env (Nx o s k z)) : evOp P S p o s k := by
 unfold callS at h
 split at h
 ·rename_i ts r hr
  split at h
  ·rename_i es hes
   split at h
   ·rename_i hro
    cases h
    obtain ⟨us, e1, e2, e3⟩ := argsE_ok hes hl
    obtain ⟨a, r1, r2, r3⟩ := ok_last hI.len hb
    obtain ⟨vs, x1, x2, x3⟩ := r1
    rw [e1] at x1; cases x1
    simp only [evOp, hop, hc, hf]
    exact ⟨hcal, hS _ _ _ _ _ _ _ e3 x2 ⟨hd, r2 _ (resS_ok hro r3)⟩⟩
   ·cases h
  ·cases h
 ·cases h
end
end Go.Tx
namespace Go.Tx
set_option linter.unusedVariables false
set_option linter.unusedSimpArgs false
open Go Go.Ab
theorem okBs_ext {CS : Calls'} : ∀ {bs : List (B × Ty)} {env : List Val} {Q : List Val → Prop}, okBs CS bs env Q → okBs CS bs env (fun e => (∃ l, e = env ++ l ∧ l.map (·.1) = bs.map (·.2)) ∧ Q e)
 | [], env, Q, h => ⟨⟨[], by simp, rfl⟩, h⟩
 | b :: bs, env, Q, h => by
  obtain ⟨v, h0, h1, h2⟩ := h
  refine ⟨v, h0, h1, okBs_mono ?_ (okBs_ext h2)⟩
  rintro e ⟨⟨l, e1, e2⟩, hq⟩
  exact ⟨⟨v :: l, by simp [e1], by simp [h0, e2]⟩, hq⟩
theorem okBs_wf {CS : Calls'} (hCS : CallsWf CS) : ∀ {bs : List (B × Ty)} {env : List Val} {Q : List Val → Prop}, EnvWf env → okBs CS bs env Q → okBs CS bs env (fun e => EnvWf e ∧ Q e)
 | [], env, Q, he, h => ⟨he, h⟩
 | b :: bs, env, Q, he, h => by
  obtain ⟨v, h0, h1, h2⟩ := h
  exact ⟨v, h0, h1, okBs_wf hCS (he.snoc (B.ok_wf hCS he h1)) h2⟩
def getOpt (g : Operand → Option SV) : Option Operand → Option (Option SV)
 | none => some none
 | some o => (g o).map some
def partsS (g : Operand → Option SV) : List (Nat × Operand) → Option (List (Nat × SV))
 | [] => some []
 | (i, o) :: l => match g o, partsS g l with
  | some x, some xs => some ((i, x) :: xs)
  | _, _ => none
def passS : SV → Option SV
 | .ptr n o => some (.ptr n o)
 | .ref t x o => some (.ref t x o)
 | .aptr n o m t i inn => some (.aptr n o m t i inn)
 | _ => none
def fnc? : SV → Option Nat
 | .e (.cst (.fnc g)) _ => some g
 | _ => none
abbrev Bs := List (B × Ty)
def pure1 (x : Option SV) : Option (Bs × SV) := x.map fun z => ([], z)
def lookA (P : Program) (bx : List (Name × SV)) (t : TypeId) (ok : Bool) (m i : SV) : Option SV :=
 match m with
 | .mref n => match lookN n bx with
  | some (.mpc k u x) => match tmapk P t, tmape P t, asI i with
   | some kd, some et, some (q, a) => if isZeroV u (tzero P et) = true then lookS k kd u x q a ok else none
   | _, _, _ => none
  | _ => none
 | _ => none
def callV' (P : Program) (tb : Tab) (nv : Nat) (g : Operand → Option SV) (c : Call) : Option (Bs × SV) :=
 match c.callee with
 | .builtin .len => match c.args.toList, c.argTypes.toList with
  | [x], t :: _ => match g x with
   | some a => pure1 (lenS P t a)
   | none => none
  | _, _ => none
 | .builtin .max => match c.args.toList with
  | [x, z] => match g x, g z with
   | some a, some b => pure1 (mmS true a b)
   | _, _ => none
  | _ => none
 | .builtin .min => match c.args.toList with
  | [x, z] => match g x, g z with
   | some a, some b => pure1 (mmS false a b)
   | _, _ => none
  | _ => none
 | .value f => match g f with
  | some z => match fnc? z with
   | some gid => if callable P gid = true then (match getAll g c.args.toList with
    | some zs => callS tb nv gid zs
    | none => none) else none
   | none => none
  | none => none
 | _ => none
def valOp (P : Program) (tb : Tab) (y : Sy) (g : Operand → Option SV) (op : Op) : Option (Bs × SV) :=
 match op with
 | .move x => pure1 (g x)
 | .pick c a b => match g c, g a, g b with
  | some c, some a, some b => pure1 (pickS c a b)
  | _, _, _ => none
 | .load t a => match tagg P t, g a with
  | some ag, some v => if ag = true ∨ tsz P t ≠ 0 then loadA y.g.length y.bx ag (tyD P t) (tsz P t) v else none
  | _, _ => none
 | .fieldAddr t x i => match tfield P t i, g x with
  | some (off, ft), some v => if tsz P ft ≠ 0 then pure1 (addF off v) else none
  | _, _ => none
 | .field t x i => match tfield P t i, g x with
  | some (off, ft), some v => match tagg P ft with
   | some ag => if (ag = true ∨ tsz P ft ≠ 0) ∧ strOK v = true then pure1 (loadC ag (tyD P ft) off (tsz P ft) v) else none
   | none => none
  | _, _ => none
 | .indexAddr t x ix => match g x, g ix with
  | some a, some i => match telem P t with
   | some e => idxS y.g.length (tyD P t) (tsz P e) a i
   | none => match tarr P t with
    | some (m, e) => if 2 ≤ m ∧ tsz P e ≠ 0 then aidxS y.g.length m (tsz P e) a i (tyD P e) else none
    | none => none
  | _, _ => none
 | .index t x ix => match g x, g ix with
  | some a, some i => match tarr P t with
   | some (m, e) => match tagg P e with
    | some ag => indexV y.g.length m ag (tsz P e) a i
    | none => none
   | none => none
  | _, _ => none
 | .slice t x lo hi none => match telem P t, g x, getOpt g lo, getOpt g hi with
  | some e, some a, some l, some h => slcS y.g.length (tyD P t) (tsz P e) a l h
  | _, _, _, _ => none
 | .binOp op t x z _ => match g x, g z with
  | some a, some .nil => if (telem P t).isSome = true then nilS op a else none
  | some a, some b => match asD' (tyD P t) a, asD' (tyD P t) b with
   | some (tx, ex), some (tz, ez) => binE P op t y.g.length tx ex tz ez
   | _, _ => none
  | _, _ => none
 | .unOp op _ x => match g x with
  | some a => pure1 (unS op a)
  | none => none
 | .convert src t x => match g x, P.underlying t with
  | some a, some (.int kd) => if (P.underlying src).isSome = true then pure1 (convS kd a) else none
  | _, _ => none
 | .build t parts => if tbuild P t = true then (match partsS g parts.toList with
  | some ps => match buildS P t ps with
   | some z => some ([], z)
   | none => pure1 (buildG P t ps)
  | none => none) else none
 | .buildSlice t len parts => match getAll g (parts.toList.map (·.2)) with
  | some zs => listS P y.g.length t len (parts.toList.map (·.1)) zs
  | none => none
 | .makeFunc (.func f) first cap => if first = #[] then (getAll g cap.toList).map fun zs => ([], .fn f zs) else none
 | .extract x i => match g x with
  | some (.tup vs) => pure1 (vs[i]?)
  | _ => none
 | .nilCheck x => match g x with
  | some a => pure1 (passS a)
  | none => none
 | .lookup t x ix ok => match g x, g ix with
  | some m, some i => pure1 (lookA P y.bx t ok m i)
  | _, _ => none
 | .call c => callV' P tb y.g.length g c
 | _ => none
theorem pure1_ok {x : Option SV} {bs : Bs} {z : SV} (h : pure1 x = some (bs, z)) : x = some z ∧ bs = [] := by
 obtain ⟨z', h1, h2⟩ := Option.map_eq_some_iff.1 h
 cases h2; exact ⟨h1, rfl⟩
section
variable {P : Program} {S : Sems} {env : List Val} {y : Sy} {s : Sa} {p : Name} {o : Oper} {k : Sa → Prop} {tb : Tab}
theorem partsS_ok {g : Operand → Option SV} (hg : ∀ o x, g o = some x → InstV env x (s.get o)) : ∀ {l : List (Nat × Operand)} {ps : List (Nat × SV)}, partsS g l = some ps → InstK env ps (l.map fun x => (x.1, s.get x.2))
 | [], ps, h => by cases h; simp [InstK]
 | (i, o) :: l, ps, h => by
  simp only [partsS] at h
  split at h
  ·rename_i x xs h1 h2
   cases h
   simp only [List.map_cons, InstK]
   exact ⟨_, _, rfl, hg _ _ h1, partsS_ok hg h2⟩
  ·cases h
theorem getOpt_ok {g : Operand → Option SV} (hg : ∀ o x, g o = some x → InstV env x (s.get o)) {l : Option Operand} {c : Option SV} (h : getOpt g l = some c) : optOK env s l c := by
 cases l with
 | none => cases h; trivial
 | some l =>
  obtain ⟨x, h1, rfl⟩ := Option.map_eq_some_iff.1 h
  exact hg _ _ h1
theorem fnc_ok {z : SV} {v : V} {g : Nat} (h : fnc? z = some g) (hv : InstV env z v) : v = .d (.v (.func (.func g) #[] #[])) := by
 unfold fnc? at h
 split at h
 ·cases h; simp only [InstV] at hv; obtain ⟨a, _, rfl⟩ := hv; rfl
 ·cases h
theorem valOp_ok (hS : PureS P S) {g : Operand → Option SV} (hg : ∀ o x, g o = some x → InstV env x (s.get o)) (hI : Inst env y s) (hw : EnvWf env) (hd : ∀ d, o.dst = some d → d < s.n) {bs : Bs} {z : SV} (h : valOp P tb y g o.op = some (bs, z))
  (hb : okBs (CallV P) bs env (Nx o s k z)) : evOp P S p o s k := by
 cases hop : o.op <;> simp only [valOp, hop, reduceCtorEq] at h
 case move x =>
  obtain ⟨h1, rfl⟩ := pure1_ok h
  simp only [evOp, hop]
  exact hb _ (hg _ _ h1)
 case pick c a b =>
  split at h
  ·rename_i c' a' b' h1 h2 h3
   obtain ⟨h4, rfl⟩ := pure1_ok h
   obtain ⟨r, e1, e2, e3⟩ := pickS_ok h4 (hg _ _ h1) (hg _ _ h2) (hg _ _ h3)
   simp only [evOp, hop, e1]
   exact ⟨fun e => hb _ (e2 e), fun e => hb _ (e3 e)⟩
  ·cases h
 case load t a =>
  split at h
  ·rename_i ag v h1 h2
   split at h
   ·rename_i hc
    exact loadA_ok hop h1 (fun e => by rcases hc with hc | hc <;> first | exact hc | (rw [e] at hc; cases hc)) h hI (hg _ _ h2) hb
   ·cases h
  ·cases h
 case fieldAddr t x i =>
  split at h
  ·rename_i off ft v h1 h2
   split at h
   ·rename_i hc
    obtain ⟨h3, rfl⟩ := pure1_ok h
    exact addF_ok hop h1 hc h3 (hg _ _ h2) hb
   ·cases h
  ·cases h
 case field t x i =>
  split at h
  ·rename_i off ft v h1 h2
   split at h
   ·rename_i ag hag
    split at h
    ·rename_i hc
     obtain ⟨h3, rfl⟩ := pure1_ok h
     exact field_ok hop h1 hag (fun e => by rcases hc.1 with hc | hc <;> first | exact hc | (rw [e] at hc; cases hc)) hc.2 h3 (hg _ _ h2) hb
    ·cases h
   ·cases h
  ·cases h
 case indexAddr t x ix =>
  split at h
  ·rename_i a i h1 h2
   split at h
   ·rename_i e he
    exact idxS_ok hop he h hI (hg _ _ h1) (hg _ _ h2) hb
   ·rename_i he
    split at h
    ·rename_i m e ht
     split at h
     ·rename_i hc
      exact aidxS_ok hop he ht hc.1 hc.2 h hI (hg _ _ h1) (hg _ _ h2) hb
     ·cases h
    ·cases h
  ·cases h
 case index t x ix =>
  split at h
  ·rename_i a i h1 h2
   split at h
   ·rename_i m e ht
    split at h
    ·rename_i ag hag
     exact indexV_ok hop ht hag h hI (hg _ _ h1) (hg _ _ h2) hb
    ·cases h
   ·cases h
  ·cases h
 case slice t x lo hi mx =>
  cases mx with
  | some m => cases h
  | none =>
   simp only at h
   split at h
   ·rename_i e a l hh h1 h2 h3 h4
    exact slcS_ok hop h1 h hI (hg _ _ h2) (getOpt_ok hg h3) (getOpt_ok hg h4) hb
   ·cases h
 case binOp op t x z' yt =>
  split at h
  ·rename_i a h1 h2
   split at h
   ·rename_i hc
    obtain ⟨e, he⟩ := Option.isSome_iff_exists.1 hc
    have := hg _ _ h2
    simp only [InstV] at this
    exact nilS_ok hop he this h (hg _ _ h1) hb
   ·cases h
  ·rename_i a b _ h1 h2
   split at h
   ·rename_i tx ex tz ez h3 h4
    obtain ⟨a1, e1, e2⟩ := asD'_ok h3 (hg _ _ h1)
    obtain ⟨b1, e3, e4⟩ := asD'_ok h4 (hg _ _ h2)
    exact binE_ok h hI.len e1 e3 ⟨x, z', yt, hop, e2, e4⟩ hb
   ·cases h
  ·cases h
 case unOp op t x =>
  split at h
  ·rename_i a h1
   obtain ⟨h3, rfl⟩ := pure1_ok h
   exact unS_ok hop h3 (hg _ _ h1) hb
  ·cases h
 case convert src t x =>
  split at h
  ·rename_i a kd h1 h2
   split at h
   ·rename_i hc
    obtain ⟨h3, rfl⟩ := pure1_ok h
    exact convS_ok hop h2 hc hw h3 (hg _ _ h1) hb
   ·cases h
  ·cases h
 case build t parts =>
  split at h
  ·rename_i ht
   split at h
   ·rename_i ps hps
    split at h
    ·rename_i z' hz
     cases h
     exact buildS_ok hop ht hz (partsS_ok hg hps) hb
    ·obtain ⟨h3, rfl⟩ := pure1_ok h
     exact buildG_ok hop ht h3 (partsS_ok hg hps) hb
   ·cases h
  ·cases h
 case buildSlice t len parts =>
  split at h
  ·rename_i zs hzs
   refine listS_ok hop h hI ?_ hb
   have := getAll_ok hg hzs
   rw [List.map_map] at this
   exact this
  ·cases h
 case makeFunc f first cap =>
  cases f with
  | func f =>
   simp only at h
   split at h
   ·rename_i hf
    subst hf
    obtain ⟨zs, h1, h2⟩ := Option.map_eq_some_iff.1 h
    cases h2
    exact makeFunc_ok hop (getAll_ok hg h1) hb
   ·cases h
  | _ => cases h
 case extract x i =>
  split at h
  ·rename_i vs h1
   obtain ⟨h3, rfl⟩ := pure1_ok h
   exact extract_ok hop h3 (hg _ _ h1) hb
  ·cases h
 case nilCheck x =>
  split at h
  ·rename_i a h1
   obtain ⟨h3, rfl⟩ := pure1_ok h
   have := hg _ _ h1
   simp only [evOp, hop]
   unfold passS at h3
   split at h3
   ·cases h3; have h2 := this; simp only [InstV] at this; simp only [this]; exact hb _ (by simp only [InstV])
   ·cases h3; have h2 := this; simp only [InstV] at this; obtain ⟨a, cs, e1, e2, e3⟩ := this; rw [e2]; exact hb _ (by rw [← e2]; exact h2)
   ·cases h3; have h2 := this; simp only [InstV] at this; obtain ⟨kk, j, e1, e2, e3, e4⟩ := this; rw [e4]; exact hb _ (by rw [← e4]; exact h2)
   ·cases h3
  ·cases h
 case lookup t x ix ok =>
  split at h
  ·rename_i m i h1 h2
   obtain ⟨h3, rfl⟩ := pure1_ok h
   unfold lookA at h3
   split at h3
   ·rename_i n
    split at h3
    ·rename_i k' u xx hl
     split at h3
     ·rename_i kd et q a h4 h5 h6
      split at h3
      ·rename_i hz
       have hm := hg _ _ h1
       simp only [InstV] at hm
       obtain ⟨c, e1, e2⟩ := (hI.bx.look (n := n)).1 hl
       obtain ⟨ii, e3, e4⟩ := asI_ok h6 (hg _ _ h2)
       exact lookS_ok hop h4 h5 hz hm e1 e2 (by simp only [InstV]; exact ⟨ii, e3, e4⟩) h3 hb
      ·cases h3
     ·cases h3
    ·cases h3
   ·cases h3
  ·cases h
 case call c =>
  unfold callV' at h
  split at h
  ·rename_i hcal
   split at h
   ·rename_i x t ts hx ht
    split at h
    ·rename_i a h1
     obtain ⟨h3, rfl⟩ := pure1_ok h
     exact lenS_ok hop hcal hx ht h3 (hg _ _ h1) hb
    ·cases h
   ·cases h
  ·rename_i hcal
   split at h
   ·rename_i x z' hx
    split at h
    ·rename_i a b h1 h2
     obtain ⟨h3, rfl⟩ := pure1_ok h
     exact mmS_ok (gt := true) hop hcal hx h3 (hg _ _ h1) (hg _ _ h2) hb
    ·cases h
   ·cases h
  ·rename_i hcal
   split at h
   ·rename_i x z' hx
    split at h
    ·rename_i a b h1 h2
     obtain ⟨h3, rfl⟩ := pure1_ok h
     exact mmS_ok (gt := false) hop hcal hx h3 (hg _ _ h1) (hg _ _ h2) hb
    ·cases h
   ·cases h
  ·rename_i f hcal
   split at h
   ·rename_i zf hzf
    split at h
    ·rename_i gid hgid
     split at h
     ·rename_i hcb
      split at h
      ·rename_i zs hzs
       exact callS_ok hS hop hcal (fnc_ok hgid (hg _ _ hzf)) hcb h hI (getAll_ok hg hzs) hd hb
      ·cases h
     ·cases h
    ·cases h
   ·cases h
  ·cases h
end
end Go.Tx
namespace Go.Tx
set_option linter.unusedVariables false
set_option linter.unusedSimpArgs false
open Go Go.Ab
def etD (P : Program) (t : TypeId) : Option Ty := match telem P t with | some e => tyD P e | none => none
def coeS (w : Option Ty) : SV → SV
 | .kd cs => match asE w (.kd cs) with | some (t, x) => .e t x | none => .kd cs
 | x => x
theorem coeS_ok {env : List Val} {w : Option Ty} {z : SV} {v : V} (h : InstV env z v) : InstV env (coeS w z) v := by
 cases z <;> try exact h
 case kd cs =>
  simp only [coeS]
  split
  ·rename_i t x he
   obtain ⟨a, h1, h2⟩ := asE_ok he h
   simp only [InstV] at h; subst h
   simp only [V.toD, V.toD1, Option.some.injEq] at h2
   simp only [InstV]
   exact ⟨a, h1, by rw [h2]⟩
  ·exact h
def zeroSV (P : Program) (t : TypeId) : Option SV := match tzero P t with
 | .nil => some .nil
 | _ => (zeroOf P t).map fun w => .e w (.zero w)
theorem zeroSV_ok {P : Program} {env : List Val} {t : TypeId} {z : SV} (h : zeroSV P t = some z) : InstV env z (tzero P t) := by
 unfold zeroSV at h
 split at h
 ·rename_i e; cases h; rw [e]; simp only [InstV]
 ·obtain ⟨w, h1, h2⟩ := Option.map_eq_some_iff.1 h
  subst h2
  rw [(zeroOf_ok h1).1]
  simp only [InstV]
  exact ⟨_, rfl, rfl⟩
def isNone' {α : Type} : Option α → Bool
 | none => true
 | some _ => false
def newS (y : Sy) (d : Nat) (p : Name) (dst : Option Tmp) (sz : Option Nat) (et : Option Ty) (z : SV) : Option (Bs × Sy) :=
 match y.claim (1000000 :: d :: p) sz et z with
 | some (z', y') => if y.refs (d :: p) = false ∧ isNone' (lookN (d :: p) y.bx) = true then some ([], ({ y' with bx := (d :: p, z') :: y'.bx } : Sy).put dst (.ptr (d :: p) 0)) else none
 | none => none
theorem isNone_eq {α : Type} {x : Option α} (h : isNone' x = true) : x = none := by cases x <;> simp_all [isNone']
section
variable {P : Program} {S : Sems} {CS : Calls'} {env : List Val} {y : Sy} {s : Sa} {p : Name} {o : Oper} {k : Sa → Prop} {tb : Tab}
theorem newS_ok {d : Nat} {sz : Option Nat} {et : Option Ty} {z : SV} {v : V} {bs : Bs} {y' : Sy} (h : newS y d p o.dst sz et z = some (bs, y')) (hI : Inst env y s) (hv : InstV env z v) (hb : okBs CS bs env fun e => ∀ s', Inst e y' s' → k s') :
  s.refs (d :: p) = false ∧ lookN (d :: p) s.bx = none ∧ k ({ (s.claim (1000000 :: d :: p) sz v).2 with bx := (d :: p, (s.claim (1000000 :: d :: p) sz v).1) :: (s.claim (1000000 :: d :: p) sz v).2.bx }.put o.dst (.ptr (d :: p) 0)) := by
 unfold newS at h
 split at h
 ·rename_i z' y1 hc
  split at h
  ·rename_i hh
   cases h
   obtain ⟨h1, h2⟩ := hI.claim hv hc
   refine ⟨hI.refs hh.1, (hI.bx.look (n := d :: p)).2 (isNone_eq hh.2), hb _ ?_⟩
   have h3 : Inst env { y1 with bx := (d :: p, z') :: y1.bx } { (s.claim (1000000 :: d :: p) sz v).2 with bx := (d :: p, (s.claim (1000000 :: d :: p) sz v).1) :: (s.claim (1000000 :: d :: p) sz v).2.bx } :=
    ⟨h2.g, h2.rd, h2.n, h2.ts, h2.sv, ⟨_, _, rfl, h1, h2.bx⟩, h2.lp, h2.ow, h2.vc⟩
   exact h3.put o.dst rfl
  ·cases h
 ·cases h
def storeP (P : Program) (y : Sy) (dst : Option Tmp) (t : TypeId) (n : Name) (off : Nat) (v : SV) : Option (Bs × Sy) :=
 match lookN n y.bx with
 | some _ => match y.claim ((1000000 + off) :: n) (esz P t) (etD P t) v with
  | some (v', y') => match lookN n y'.bx with
   | some c => match storeC off v' c with
    | some c' => if sizeS v' = some (tsz P t) ∧ (sizeS v).isSome = true ∧ tsz P t ≠ 0 then some ([], ({ y' with bx := setN n c' y'.bx } : Sy).put dst .dead) else none
    | none => none
   | none => none
  | none => none
 | none => none
theorem storeP_ok {t : TypeId} {a x : Operand} {n : Name} {off : Nat} {v : SV} {bs : Bs} {y' : Sy} (hop : o.op = .store t a x) (ha : s.get a = .ptr n off) (hv : InstV env v (s.get x)) (h : storeP P y o.dst t n off v = some (bs, y')) (hI : Inst env y s)
  (hb : okBs CS bs env fun e => ∀ s', Inst e y' s' → k s') : evOp P S p o s k := by
 unfold storeP at h
 split at h
 ·rename_i c0 hc0
  split at h
  ·rename_i v' y1 hcl
   split at h
   ·rename_i c hc
    split at h
    ·rename_i c' hc'
     split at h
     ·rename_i hh
      cases h
      obtain ⟨h1, h2⟩ := hI.claim hv hcl
      obtain ⟨b0, e0, _⟩ := (hI.bx.look (n := n)).1 hc0
      obtain ⟨b, e1, e2⟩ := (h2.bx.look (n := n)).1 hc
      obtain ⟨r1, r2, r3⟩ := storeC_ok hc' h1 e2
      obtain ⟨nn, hn⟩ := Option.isSome_iff_exists.1 hh.2.1
      simp only [evOp, hop, ha, e0, e1]
      obtain ⟨q1, q2⟩ := sizeS_ok hh.1 h1
      refine ⟨(sizeS_ok hn hv).2, hh.2.2, q1, by omega, hb _ ?_⟩
      have h3 : Inst env { y1 with bx := setN n c' y1.bx } { (s.claim ((1000000 + off) :: n) (esz P t) (s.get x)).2 with bx := setN n (storeBox off (s.claim ((1000000 + off) :: n) (esz P t) (s.get x)).1 b) (s.claim ((1000000 + off) :: n) (esz P t) (s.get x)).2.bx } :=
       ⟨h2.g, h2.rd, h2.n, h2.ts, h2.sv, h2.bx.setN r1, h2.lp, h2.ow, h2.vc⟩
      exact h3.put o.dst rfl
     ·cases h
    ·cases h
   ·cases h
  ·cases h
 ·cases h
def storeA (P : Program) (y : Sy) (dst : Option Tmp) (t : TypeId) (n : Name) (off m : Nat) (u : Ty) (i : E) (inn : Nat) (v : SV) : Option (Bs × Sy) :=
 match v with
 | .e w e => match lookN n y.bx with
  | some (.e b x) => match arrE off m u b x with
   | some z =>
    let nv := y.g.length
    if w.size = tsz P t ∧ tsz P t ≠ 0 ∧ b.ag = some true ∧ b.size ≠ 1 then
     (if inn = 0 ∧ w = u then
      (if off = 0 ∧ b = .arr m u then some ([(.r3 .aset z i e, .arr m u)], ({ (y.more [.arr m u]) with bx := setN n (.e (.arr m u) (.var nv)) y.bx } : Sy).put dst .dead)
       else match ty2 (.upd off) b (.arr m u) with
       | some b' => some ([(.r3 .aset z i e, .arr m u)], ({ (y.more [.arr m u]) with bx := setN n (.e b' (.p2 (.upd off) x (.var nv))) y.bx } : Sy).put dst .dead)
       | none => none)
     else match ty2 (.upd inn) u w with
      | some u' => if u' = u then (match (if off = 0 ∧ b = .arr m u then some (b, E.var (nv + 1)) else (ty2 (.upd off) b (.arr m u)).map fun b' => (b', .p2 (.upd off) x (.var (nv + 1)))) with
       | some (b', q) => some ([(.r2 .aidx z i, u), (.r3 .aset z i (.p2 (.upd inn) (.var nv) e), .arr m u)], ({ (y.more [u, .arr m u]) with bx := setN n (.e b' q) y.bx } : Sy).put dst .dead)
       | none => none) else none
      | none => none)
    else none
   | none => none
  | _ => none
 | _ => none
theorem claim_e {i : Name} {sz : Option Nat} {d : D} : s.claim i sz (.d d) = (.d d, s) := rfl
theorem aset_enc {m : Nat} {u b b' w : Ty} {f : Fin m → u.den} {c : b.den} {j : Nat} (hj : j < m) {off inn : Nat} {e : w.den} {x' : u.den} {q : b'.den}
  (h1 : enc (.arr m u) f = ((enc b c).drop off).take (m * u.size)) (hb : off + m * u.size ≤ b.size) (hi : inn + w.size ≤ u.size) (hx : enc u x' = over (enc u (f ⟨j, hj⟩)) (enc w e) inn)
  (hq : enc b' q = over (enc b c) (enc (.arr m u) fun i => if i = ⟨j, hj⟩ then x' else f i) off) :
  enc b' q = over (enc b c) (enc w e) (off + j * u.size + inn) := by
 have hle : j * u.size + u.size ≤ m * u.size := by
  have := Nat.mul_le_mul_right u.size (show j + 1 ≤ m from hj)
  rw [Nat.add_mul, Nat.one_mul] at this; exact this
 have hl : (enc (.arr m u) f).length = m * u.size := enc_len _ _
 rw [hq, arr_upd, hx]
 have hpart := arr_part f hj (o := 0) (m := u.size) (by omega)
 simp only [Nat.add_zero, List.drop_zero] at hpart
 rw [over_over (a := enc (.arr m u) f) (b := enc u (f ⟨j, hj⟩)) (c := enc w e) (o := j * u.size) (p := inn) (by rw [enc_len, enc_len]; exact hi) (by rw [enc_len, enc_len]; exact hle) (by rw [enc_len, hpart, List.take_of_length_le (by rw [enc_len]; exact Nat.le_refl _)])]
 rw [over_over (a := enc b c) (b := enc (.arr m u) f) (c := enc w e) (o := off) (p := j * u.size + inn) (by rw [enc_len, hl]; omega) (by rw [hl, enc_len]; exact hb) (by rw [hl, h1]), Nat.add_assoc]
theorem storeBox_agg {d : D} {ds : List D} {off : Nat} (h : off + d.cells.length ≤ ds.length) (ha : off = 0 ∧ d.cells.length = ds.length → d = .agg ds ∨ ∃ cs, d = .agg cs) : storeBox off (.d d) (.d (.agg ds)) = .d (.agg (over ds d.cells off)) := by
 rw [storeBox_eq]
 split
 ·rename_i hc
  rw [cells_d, List.length_map] at hc
  have hl : d.cells.length = ds.length := by simpa [V.cells] using hc.2
  have hcs : ∃ cs, d = .agg cs := by
   rcases ha ⟨hc.1, hl⟩ with h | h
   ·exact ⟨ds, h⟩
   ·exact h
  obtain ⟨cs, rfl⟩ := hcs
  rw [hc.1, over_all (by rw [hl])]
  rfl
 ·rfl
theorem encD_not {t : Ty} (h : t.size ≠ 1) (x : t.den) : encD t x = .agg (enc t x) := by
 unfold encD wrapD
 split
 ·rename_i ha; exact absurd (size_one ha) h
 ·rfl
theorem storeA_fin {t : TypeId} {a x : Operand} {n : Name} {off : Nat} {w b b' : Ty} {e : w.den} {c : b.den} {q : b'.den} (hop : o.op = .store t a x) (ha : s.get a = .ptr n off) (hx : s.get x = .d (encD w e)) (hn : lookN n s.bx = some (.d (encD b c)))
  (h1 : w.size = tsz P t) (h2 : tsz P t ≠ 0) (h3 : b.ag = some true) (h4 : b.size ≠ 1) (h5 : b'.ag = some true) (hle : off + w.size ≤ b.size) (hq : enc b' q = over (enc b c) (enc w e) off)
  (hk : k ({ s with bx := setN n (.d (encD b' q)) s.bx }.put o.dst .dead)) : evOp P S p o s k := by
 have hb : storeBox off (.d (encD w e)) (.d (encD b c)) = .d (encD b' q) := by
  rw [encD_ag h3, encD_ag h5, storeBox_agg (by rw [encD_cells, enc_len, enc_len]; exact hle), encD_cells, hq]
  rintro ⟨_, hl⟩
  rw [encD_cells, enc_len, enc_len] at hl
  exact .inr ⟨_, encD_not (by omega) e⟩
 simp only [evOp, hop, ha, hn, hx, claim_e]
 refine ⟨rfl, h2, by rw [cells_d, List.length_map, encD_cells, enc_len]; exact h1, ?_, ?_⟩
 ·rw [cells_d, List.length_map, encD_cells, enc_len, ← h1]; exact hle
 ·rw [hb]; exact hk
theorem storeA_ok {t : TypeId} {a x : Operand} {n : Name} {off m : Nat} {u : Ty} {i : E} {inn : Nat} {v : SV} {bs : Bs} {y' : Sy} (hop : o.op = .store t a x) (ha : InstV env (.aptr n off m u i inn) (s.get a)) (hv : InstV env v (s.get x)) (h : storeA P y o.dst t n off m u i inn v = some (bs, y')) (hI : Inst env y s)
  (hb : okBs CS bs env fun e => ∀ s', Inst e y' s' → k s') : evOp P S p o s k := by
 unfold storeA at h
 split at h
 ·rename_i w e
  simp only [InstV] at hv ha
  obtain ⟨ev, hev, hx⟩ := hv
  obtain ⟨kk, j, hi, hj0, hjm, hap⟩ := ha
  split at h
  ·rename_i b xx hbx
   obtain ⟨c', g1, g2⟩ := (hI.bx.look (n := n)).1 hbx
   simp only [InstV] at g2
   obtain ⟨c, hc, rfl⟩ := g2
   split at h
   ·rename_i z hz
    obtain ⟨f, f1, f2, f3, f4⟩ := arrE_ok hz hc
    simp only at h
    split at h
    ·rename_i hcond
     obtain ⟨c1, c2, c3, c4⟩ := hcond
     have hle : j.toNat * u.size + u.size ≤ m * u.size := by
      have := Nat.mul_le_mul_right u.size (show j.toNat + 1 ≤ m from hjm)
      rw [Nat.add_mul, Nat.one_mul] at this; exact this
     split at h
     ·rename_i hw
      obtain ⟨hinn, hwu⟩ := hw
      subst hinn; subst hwu
      split at h
      ·rename_i hwhole
       obtain ⟨hoff, hbarr⟩ := hwhole
       subst hoff; subst hbarr
       cases h
       obtain ⟨g, r1, r2, r3⟩ := ok_last hI.len hb
       obtain ⟨a', b', d', r, cc, x1, x2, x3, x4, x5, x6⟩ := r1
       rw [f1] at x1; cases x1
       rw [hi] at x2; cases x2
       rw [hev] at x3; cases x3
       simp only [rel3, dif_pos, Option.some.injEq] at x4
       subst x4
       simp only at x5
       rw [dif_pos ⟨hj0, hjm⟩] at x5
       cases x5; cases x6
       have hfc : enc (.arr m w) f = enc (.arr m w) c := by rw [f3, List.drop_zero, List.take_of_length_le (by rw [enc_len]; exact Nat.le_refl _)]
       refine storeA_fin (b' := .arr m w) (c := c) (q := fun i => if i = ⟨j.toNat, hjm⟩ then ev else f i) hop hap hx g1 c1 c2 c3 c4 rfl (by simp only [Ty.size]; omega) ?_ (r2 _ ?_)
       ·refine aset_enc (off := 0) (inn := 0) (c := c) hjm f3 f2 (by omega) (x' := ev) ?_ ?_
        ·rw [over_all (by rw [enc_len, enc_len])]
        ·rw [over_all (by rw [enc_len, enc_len])]
       ·have h3 := hI.snoc (⟨.arr m w, fun i => if i = ⟨j.toNat, hjm⟩ then ev else f i⟩ : Val)
        have h4 : Inst (env ++ [⟨.arr m w, fun i => if i = ⟨j.toNat, hjm⟩ then ev else f i⟩]) { (y.more [.arr m w]) with bx := setN n (.e (.arr m w) (.var y.g.length)) y.bx } { s with bx := setN n (.d (encD (.arr m w) fun i => if i = ⟨j.toNat, hjm⟩ then ev else f i)) s.bx } :=
         ⟨h3.g, h3.rd, h3.n, h3.ts, h3.sv, h3.bx.setN (by simp only [InstV]; exact ⟨_, r3, rfl⟩), h3.lp, h3.ow, h3.vc⟩
        exact h4.put o.dst rfl
      ·split at h
       ·rename_i b1 hb1
        cases h
        obtain ⟨g, r1, r2, r3⟩ := ok_last hI.len hb
        obtain ⟨a', b', d', r, cc, x1, x2, x3, x4, x5, x6⟩ := r1
        rw [f1] at x1; cases x1
        rw [hi] at x2; cases x2
        rw [hev] at x3; cases x3
        simp only [rel3, dif_pos, Option.some.injEq] at x4
        subst x4
        simp only at x5
        rw [dif_pos ⟨hj0, hjm⟩] at x5
        cases x5; cases x6
        obtain ⟨F, u1, u2⟩ := val2 hb1 (E.val_app _ hc) r3
        obtain ⟨p1, p2, p3, p4⟩ := updF_enc _ _ _ _ _ (show updF b (.arr m w) off = some ⟨b1, F⟩ from u1)
        refine storeA_fin (b' := b1) (c := c) (q := F c fun i => if i = ⟨j.toNat, hjm⟩ then ev else f i) hop hap hx g1 c1 c2 c3 c4 (by rw [p3, c3]) (by simp only [Ty.size] at p1; omega) ?_ (r2 _ ?_)
        ·exact aset_enc (off := off) (inn := 0) (c := c) hjm f3 f2 (by omega) (x' := ev) (by rw [over_all (by rw [enc_len, enc_len])]) (p4 _ _)
        ·have h3 := hI.snoc (⟨.arr m w, fun i => if i = ⟨j.toNat, hjm⟩ then ev else f i⟩ : Val)
         have h4 : Inst (env ++ [⟨.arr m w, fun i => if i = ⟨j.toNat, hjm⟩ then ev else f i⟩]) { (y.more [.arr m w]) with bx := setN n (.e b1 (.p2 (.upd off) xx (.var y.g.length))) y.bx } { s with bx := setN n (.d (encD b1 (F c fun i => if i = ⟨j.toNat, hjm⟩ then ev else f i))) s.bx } :=
          ⟨h3.g, h3.rd, h3.n, h3.ts, h3.sv, h3.bx.setN (by simp only [InstV]; exact ⟨_, u2, rfl⟩), h3.lp, h3.ow, h3.vc⟩
         exact h4.put o.dst rfl
       ·cases h
     ·split at h
      ·rename_i u' hu'
       split at h
       ·rename_i huu
        subst huu
        split at h
        ·rename_i b1 q1 hb1
         cases h
         simp only [okBs] at hb
         obtain ⟨v1, v2, ⟨a1, b2, r', cc, x1, x2, x3, x4, x5⟩, v3, v4, ⟨a2, b3, d2, r2, cc2, z1, z2, z3, z4, z5, z6⟩, hk⟩ := hb
         rw [f1] at x1; cases x1
         rw [hi] at x2; cases x2
         simp only [rel2, Option.some.injEq] at x3
         subst x3
         simp only at x4
         rw [dif_pos ⟨hj0, hjm⟩] at x4
         cases x4; subst x5
         rw [E.val_app _ f1] at z1; cases z1
         rw [E.val_app _ hi] at z2; cases z2
         have hel : (E.var y.g.length).val (env ++ [⟨u', f ⟨j.toNat, hjm⟩⟩]) = some ⟨u', f ⟨j.toNat, hjm⟩⟩ := var_last hI.len
         obtain ⟨F, u1, u2⟩ := val2 hu' hel (E.val_app _ hev)
         rw [u2] at z3; cases z3
         simp only [rel3, dif_pos, Option.some.injEq] at z4
         subst z4
         simp only at z5
         rw [dif_pos ⟨hj0, hjm⟩] at z5
         cases z5; subst z6
         obtain ⟨p1, p2, p3, p4⟩ := updF_enc _ _ _ _ _ (show updF u' w inn = some ⟨u', F⟩ from u1)
         have hl2 : (env ++ [(⟨u', f ⟨j.toNat, hjm⟩⟩ : Val)]).length = y.g.length + 1 := by rw [List.length_append, hI.len]; rfl
         have hlast := var_last (v := (⟨.arr m u', fun (i : Fin m) => if i = ⟨j.toNat, hjm⟩ then F (f ⟨j.toNat, hjm⟩) ev else f i⟩ : Val)) hl2
         have hc2 := E.val_app [(⟨.arr m u', fun (i : Fin m) => if i = ⟨j.toNat, hjm⟩ then F (f ⟨j.toNat, hjm⟩) ev else f i⟩ : Val)] (E.val_app [(⟨u', f ⟨j.toNat, hjm⟩⟩ : Val)] hc)
         have fin : ∀ (q : b1.den), q1.val (env ++ [(⟨u', f ⟨j.toNat, hjm⟩⟩ : Val)] ++ [(⟨.arr m u', fun (i : Fin m) => if i = ⟨j.toNat, hjm⟩ then F (f ⟨j.toNat, hjm⟩) ev else f i⟩ : Val)]) = some ⟨b1, q⟩ → b1.ag = some true →
           enc b1 q = over (enc b c) (enc (.arr m u') fun i => if i = ⟨j.toNat, hjm⟩ then F (f ⟨j.toNat, hjm⟩) ev else f i) off → evOp P S p o s k := by
          intro q e1 e2 e3
          refine storeA_fin (b' := b1) (c := c) (q := q) hop hap hx g1 c1 c2 c3 c4 e2 (by omega) (aset_enc (off := off) (inn := inn) (c := c) hjm f3 f2 p1 (p4 _ _) e3) (hk _ ?_)
          have h3 := (hI.snoc (⟨u', f ⟨j.toNat, hjm⟩⟩ : Val)).snoc (⟨.arr m u', fun (i : Fin m) => if i = ⟨j.toNat, hjm⟩ then F (f ⟨j.toNat, hjm⟩) ev else f i⟩ : Val)
          have h4 : Inst (env ++ [(⟨u', f ⟨j.toNat, hjm⟩⟩ : Val)] ++ [(⟨.arr m u', fun (i : Fin m) => if i = ⟨j.toNat, hjm⟩ then F (f ⟨j.toNat, hjm⟩) ev else f i⟩ : Val)]) { (y.more [u', .arr m u']) with bx := setN n (.e b1 q1) y.bx } { s with bx := setN n (.d (encD b1 q)) s.bx } :=
           ⟨by have := h3.g; simp only [Sy.more, List.append_assoc] at this ⊢; exact this, h3.rd, h3.n, h3.ts, h3.sv, h3.bx.setN (by simp only [InstV]; exact ⟨_, e1, rfl⟩), h3.lp, h3.ow, h3.vc⟩
          exact h4.put o.dst rfl
         split at hb1
         ·rename_i hwhole
          obtain ⟨hoff, hbarr⟩ := hwhole
          subst hoff; subst hbarr
          cases hb1
          exact fin _ hlast rfl (by rw [over_all (by rw [enc_len, enc_len])])
         ·obtain ⟨b1', hb1', he⟩ := Option.map_eq_some_iff.1 hb1
          cases he
          obtain ⟨G, t1, t2⟩ := val2 hb1' hc2 hlast
          obtain ⟨s1, s2, s3, s4⟩ := updF_enc _ _ _ _ _ (show updF b (.arr m u') off = some ⟨b1, G⟩ from t1)
          exact fin _ t2 (by rw [s3, c3]) (s4 _ _)
        ·cases h
       ·cases h
      ·cases h
    ·cases h
   ·cases h
  ·cases h
 ·cases h
end
end Go.Tx
namespace Go.Tx
set_option linter.unusedVariables false
set_option linter.unusedSimpArgs false
open Go Go.Ab
def isScal : Ty → Bool
 | .int _ | .bool | .str | .cst _ => true
 | _ => false
def appendS (P : Program) (p : Name) (y : Sy) (dst : Option Tmp) (t u : TypeId) (a b : SV) : Option (Bs × Sy) :=
 match telem P t with
 | some e => match asS (tyD P u) b with
  | some (w, ye) => if telem P u = some e ∧ tsz P e ≠ 0 ∧ isCells (tzero P e) = true ∧ (tzero P e).cells.length = tsz P e ∧ w.size = tsz P e ∧ tbytes P e ≠ 0 then
    (match a with
    | .own i sz w' xe => if y.ow.contains i = true ∧ sz = tsz P e ∧ w = w' then
      some ([(.r2 (.app (tbytes P e)) xe ye, .sl w)], ({ ((y.strip i).more [.sl w]) with ow := i :: (y.strip i).ow } : Sy).put dst (.own i sz w (.var y.g.length))) else none
    | .nil => some ([(.r2 (.app (tbytes P e)) (.zero (.sl w)) ye, .sl w)], ({ ((y.strip (dst.getD 0 :: p)).more [.sl w]) with ow := (dst.getD 0 :: p) :: (y.strip (dst.getD 0 :: p)).ow } : Sy).put dst (.own (dst.getD 0 :: p) (tsz P e) w (.var y.g.length)))
    | _ => none) else none
  | none => none
 | none => none
def stOp (P : Program) (p : Name) (y : Sy) (o : Oper) : Option (Bs × Sy) :=
 let d := o.dst.getD 0
 match o.op with
 | .assign x => match y.get x with
  | some v => match y.claim (d :: p) (esz P o.type) (etD P o.type) v with
   | some (v', y') => some ([], y'.put o.dst v')
   | none => none
  | none => none
 | .alloc t => match zeroSV P t with
  | some z => if sizeS z = some (tsz P t) then newS y d p o.dst (esz P t) (etD P t) z else none
  | none => none
 | .box t x => match y.get x with
  | some v => if (sizeS (coeS (tyD P t) v)).isSome = true then newS y d p o.dst (esz P t) (etD P t) (coeS (tyD P t) v) else none
  | none => none
 | .store t a x => match y.get a, y.get x with
  | some (.ptr n off), some v => storeP P y o.dst t n off (coeS (tyD P t) v)
  | some (.aptr n off m u i inn), some v => storeA P y o.dst t n off m u i inn (coeS (tyD P t) v)
  | _, _ => none
 | .buildSlice t 0 parts => match telem P t with
  | some e => if tsz P e ≠ 0 ∧ isCells (tzero P e) = true ∧ parts = #[] then (match y.claim (d :: p) (some (tsz P e)) (tyD P e) .nil with
   | some (v', y') => some ([], y'.put o.dst v')
   | none => none) else none
  | none => none
 | .makeMap t none => match tmapk P t, tmape P t with
  | some kd, some et => match tyD P et with
   | some w => if y.refs (d :: p) = false ∧ isNone' (lookN (d :: p) y.bx) = true then some ([], ({ y with bx := (d :: p, .mpc kd w (.zero (.mp kd w))) :: y.bx } : Sy).put o.dst (.mref (d :: p))) else none
   | none => none
  | _, _ => none
 | .mapUpdate t m ky x => match tmapk P t, y.get m, y.get ky, y.get x with
  | some kd, some (.mref n), some (.e (.int kd2) a), some (.e w c) => match lookN n y.bx with
   | some (.mpc kd' u l) => if kd' = kd ∧ kd2 = kd ∧ w = u ∧ isScal w = true then
     some ([], ({ y with bx := setN n (.mpc kd u (.p2 .mput l (.p2 .pair a c))) y.bx } : Sy).put o.dst .dead) else none
   | _ => none
  | _, _, _, _ => none
 | .call c => match c.callee with
  | .builtin .append => match c.args.toList, c.argTypes.toList with
   | [x, z], t :: u :: _ => match y.get x, y.get z with
    | some a, some b => appendS P p y o.dst t u a b
    | _, _ => none
   | _, _ => none
  | _ => none
 | _ => none
section
variable {P : Program} {S : Sems} {CS : Calls'} {env : List Val} {y : Sy} {s : Sa} {p : Name} {o : Oper} {k : Sa → Prop} {tb : Tab}
theorem mput_rel {t : Ty} (a : Int) {x : t.den} {c : Value} (hc : scal t x = some c) : ∀ {l : List (Int × t.den)} {kvs : List (Int × Value)}, l.map (fun y => (y.1, scal t y.2)) = kvs.map (fun y => (y.1, some y.2)) →
  (mputV l a x).map (fun y => (y.1, scal t y.2)) = (putKV a c kvs).map (fun y => (y.1, some y.2))
 | [], [], _ => by simp [mputV, putKV, hc]
 | [], _ :: _, h => by simp at h
 | _ :: _, [], h => by simp at h
 | (b, z) :: l, (b', d) :: kvs, h => by
  simp only [List.map_cons, List.cons.injEq, Prod.mk.injEq] at h
  obtain ⟨⟨h1, h2⟩, h3⟩ := h
  subst h1
  simp only [mputV, putKV]
  split
  ·simp only [List.map_cons, hc, h3]
  ·simp only [List.map_cons, h2, mput_rel a hc h3]
theorem scal_some {w : Ty} (h : isScal w = true) (x : w.den) : ∃ c, scal w x = some c := by
 cases w <;> simp [isScal] at h <;> exact ⟨_, rfl⟩
theorem appendS_ok {c : Call} {x z : Operand} {t u : TypeId} {ts : List TypeId} {a b : SV} {bs : Bs} {y' : Sy} (hop : o.op = .call c) (hc : c.callee = .builtin .append) (hx : c.args.toList = [x, z]) (ht : c.argTypes.toList = t :: u :: ts)
  (ha : InstV env a (s.get x)) (hz : InstV env b (s.get z)) (h : appendS P p y o.dst t u a b = some (bs, y')) (hI : Inst env y s) (hb : okBs CS bs env fun e => ∀ s', Inst e y' s' → k s') : evOp P S p o s k := by
 unfold appendS at h
 split at h
 ·rename_i e he
  split at h
  ·rename_i w ye hy
   obtain ⟨ys, e1, e2⟩ := asS_ok hy hz
   split at h
   ·rename_i hcond
    obtain ⟨c1, c2, c3, c4, c5, c6⟩ := hcond
    have hall : ∀ d ∈ ys.map (encD w), d.cells.length = tsz P e := fun d hd => by
     obtain ⟨q, _, rfl⟩ := List.mem_map.1 hd
     rw [encD_cells, enc_len]; exact c5
    split at h
    ·rename_i i sz w' xe
     split at h
     ·rename_i hh
      obtain ⟨h1, h2, h3⟩ := hh
      subst h3
      cases h
      simp only [InstV] at ha
      obtain ⟨xs, g1, g2, g3⟩ := ha
      obtain ⟨r, r1, r2, r3⟩ := ok_last hI.len hb
      obtain ⟨a', b', rr, cc, x1, x2, x3, x4, x5⟩ := r1
      rw [g1] at x1; cases x1
      rw [e1] at x2; cases x2
      simp only [rel2, dif_pos, if_pos c6, Option.some.injEq] at x3
      subst x3
      simp only at x4
      split at x4
      ·rename_i hle
       cases x4; cases x5
       simp only [evOp, hop, hc, hx, ht, List.map_cons, List.map_nil, he, e2, g3]
       have hlen : xs.length + ys.length ≤ 9223372036854775807 := by
        have := Nat.le_mul_of_pos_right (xs.length + ys.length) (Nat.pos_of_ne_zero c6)
        omega
       refine ⟨c1, c2, c3, c4, hall, by rw [hI.ow]; exact List.contains_iff_mem.1 h1, h2, by rw [List.length_map, List.length_map]; exact hle, by rw [List.length_map, List.length_map]; exact hlen, r2 _ ?_⟩
       have h4 := (hI.strip i).snoc (⟨.sl w, xs ++ ys⟩ : Val)
       have h5 : Inst (env ++ [⟨.sl w, xs ++ ys⟩]) { ((y.strip i).more [.sl w]) with ow := i :: (y.strip i).ow } { s.strip i with ow := i :: (s.strip i).ow } :=
        ⟨h4.g, h4.rd, h4.n, h4.ts, h4.sv, h4.bx, h4.lp, by have := h4.ow; simp only [Sy.more] at this; simp only [this], h4.vc⟩
       refine h5.put o.dst ?_
       simp only [InstV]
       exact ⟨xs ++ ys, r3, g2, by rw [List.map_append]⟩
      ·cases x4
     ·cases h
    ·cases h
     simp only [InstV] at ha
     obtain ⟨r, r1, r2, r3⟩ := ok_last hI.len hb
     obtain ⟨a', b', rr, cc, x1, x2, x3, x4, x5⟩ := r1
     cases x1
     rw [e1] at x2; cases x2
     simp only [rel2, dif_pos, if_pos c6, Option.some.injEq] at x3
     subst x3
     simp only at x4
     split at x4
     ·rename_i hle
      cases x4; cases x5
      simp only [Ty.zero, List.length_nil, Nat.zero_add] at hle
      simp only [evOp, hop, hc, hx, ht, List.map_cons, List.map_nil, he, e2, ha]
      have hlen : ys.length ≤ 9223372036854775807 := by
       have := Nat.le_mul_of_pos_right ys.length (Nat.pos_of_ne_zero c6)
       omega
      refine ⟨c1, c2, c3, c4, hall, by rw [List.length_map]; exact hle, by rw [List.length_map]; exact hlen, r2 _ ?_⟩
      have h4 := (hI.strip (o.dst.getD 0 :: p)).snoc (⟨.sl w, (Ty.sl w).zero ++ ys⟩ : Val)
      have h5 : Inst (env ++ [⟨.sl w, (Ty.sl w).zero ++ ys⟩]) { ((y.strip (o.dst.getD 0 :: p)).more [.sl w]) with ow := (o.dst.getD 0 :: p) :: (y.strip (o.dst.getD 0 :: p)).ow } { s.strip (o.dst.getD 0 :: p) with ow := (o.dst.getD 0 :: p) :: (s.strip (o.dst.getD 0 :: p)).ow } :=
       ⟨h4.g, h4.rd, h4.n, h4.ts, h4.sv, h4.bx, h4.lp, by have := h4.ow; simp only [Sy.more] at this; simp only [this], h4.vc⟩
      refine h5.put o.dst ?_
      simp only [InstV]
      exact ⟨_, r3, c5, rfl⟩
     ·cases x4
    ·cases h
   ·cases h
  ·cases h
 ·cases h
theorem stOp_ok (hI : Inst env y s) {bs : Bs} {y' : Sy} (h : stOp P p y o = some (bs, y')) (hb : okBs CS bs env fun e => ∀ s', Inst e y' s' → k s') : evOp P S p o s k := by
 unfold stOp at h
 simp only at h
 split at h
 ·rename_i x hop
  split at h
  ·rename_i v hv
   split at h
   ·rename_i v' y1 hc
    cases h
    obtain ⟨h1, h2⟩ := hI.claim (hI.get hv) hc
    simp only [evOp, hop]
    exact hb _ (h2.put o.dst h1)
   ·cases h
  ·cases h
 ·rename_i t hop
  split at h
  ·rename_i z hz
   split at h
   ·rename_i hs
    have hv := zeroSV_ok (env := env) hz
    obtain ⟨h1, h2, h3⟩ := newS_ok h hI hv hb
    obtain ⟨q1, q2⟩ := sizeS_ok hs hv
    simp only [evOp, hop]
    exact ⟨q1, q2, h1, h2, h3⟩
   ·cases h
  ·cases h
 ·rename_i t x hop
  split at h
  ·rename_i v hv
   split at h
   ·rename_i hs
    have hv' := coeS_ok (w := tyD P t) (hI.get hv)
    obtain ⟨n, hn⟩ := Option.isSome_iff_exists.1 hs
    obtain ⟨h1, h2, h3⟩ := newS_ok h hI hv' hb
    simp only [evOp, hop]
    exact ⟨(sizeS_ok hn hv').2, h1, h2, h3⟩
   ·cases h
  ·cases h
 ·rename_i t a x hop
  split at h
  ·rename_i n off v h1 h2
   have ha := hI.get h1
   simp only [InstV] at ha
   exact storeP_ok hop ha (coeS_ok (hI.get h2)) h hI hb
  ·rename_i n off m u i inn v h1 h2
   exact storeA_ok hop (hI.get h1) (coeS_ok (hI.get h2)) h hI hb
  ·cases h
 ·rename_i t parts hop
  split at h
  ·rename_i e he
   split at h
   ·rename_i hh
    split at h
    ·rename_i v' y1 hc
     cases h
     obtain ⟨h1, h2⟩ := hI.claim (show InstV env .nil .nil from rfl) hc
     obtain ⟨c1, c2, c3⟩ := hh
     subst c3
     simp only [evOp, hop, he]
     refine ⟨c1, c2, by omega, rfl, ?_⟩
     simp only [List.map_nil, toDs, List.not_mem_nil, false_implies, implies_true, true_and, if_true]
     exact hb _ (h2.put o.dst h1)
    ·cases h
   ·cases h
  ·cases h
 ·rename_i t hop
  split at h
  ·rename_i kd et hk he
   split at h
   ·rename_i w hw
    split at h
    ·rename_i hh
     cases h
     simp only [evOp, hop, hk]
     refine ⟨hI.refs hh.1, (hI.bx.look).2 (isNone_eq hh.2), hb _ ?_⟩
     have h3 : Inst env { y with bx := (o.dst.getD 0 :: p, .mpc kd w (.zero (.mp kd w))) :: y.bx } { s with bx := (o.dst.getD 0 :: p, .mpc kd []) :: s.bx } :=
      ⟨hI.g, hI.rd, hI.n, hI.ts, hI.sv, ⟨_, _, rfl, by simp only [InstV]; exact ⟨[], [], rfl, rfl, rfl⟩, hI.bx⟩, hI.lp, hI.ow, hI.vc⟩
     exact h3.put o.dst rfl
    ·cases h
   ·cases h
  ·cases h
 ·rename_i t m ky x hop
  split at h
  ·rename_i kd n kd2 a w c hk h1 h2 h3
   split at h
   ·rename_i kd' u l hl
    split at h
    ·rename_i hh
     obtain ⟨rfl, rfl, rfl, c4⟩ := hh
     cases h
     have i1 := hI.get h1
     have i2 := hI.get h2
     have i3 := hI.get h3
     simp only [InstV] at i1 i2 i3
     obtain ⟨av, e2, e3⟩ := i2
     obtain ⟨cv, e4, e5⟩ := i3
     obtain ⟨b, g1, g2⟩ := (hI.bx.look (n := n)).1 hl
     simp only [InstV] at g2
     obtain ⟨lv, kvs, e6, rfl, e7⟩ := g2
     obtain ⟨cc, hcc⟩ := scal_some c4 cv
     have hcd := scal_enc hcc
     simp only [evOp, hop, hk, i1, g1, e3, e5, encD_int, hcd]
     refine ⟨trivial, trivial, hb _ ?_⟩
     have h3 : Inst env { y with bx := setN n (.mpc kd2 w (.p2 .mput l (.p2 .pair a c))) y.bx } { s with bx := setN n (.mpc kd2 (putKV av cc kvs)) s.bx } :=
      ⟨hI.g, hI.rd, hI.n, hI.ts, hI.sv, hI.bx.setN (by
       simp only [InstV]
       refine ⟨mputV lv av cv, _, ?_, rfl, mput_rel av hcc e7⟩
       simp [E.val, app2, e6, e2, e4, prim2]), hI.lp, hI.ow, hI.vc⟩
     exact h3.put o.dst rfl
    ·cases h
   ·cases h
  ·cases h
 ·rename_i c hop
  split at h
  ·rename_i hc
   split at h
   ·rename_i x z t u ts hx ht
    split at h
    ·rename_i a b h1 h2
     exact appendS_ok hop hc hx ht (hI.get h1) (hI.get h2) h hI hb
    ·cases h
   ·cases h
  ·cases h
 ·cases h
end
end Go.Tx
namespace Go.Tx
set_option linter.unusedVariables false
set_option linter.unusedSimpArgs false
open Go Go.Ab
theorem flat_enc {u : Ty} : ∀ (a : List u.den), flatD (a.map (encD u)) = a.flatMap (enc u)
 | [] => rfl
 | x :: a => by simp only [flatD, List.map_cons, List.flatMap_cons, encD_cells]; congr 1; exact flat_enc a
theorem flatMap_len {u : Ty} : ∀ (a : List u.den), (a.flatMap (enc u)).length = a.length * u.size
 | [] => by simp
 | x :: a => by rw [List.flatMap_cons, List.length_append, flatMap_len a, enc_len, List.length_cons, Nat.succ_mul, Nat.add_comm]
theorem flat_at {u : Ty} (a : List u.den) {j : Nat} (hj : j < a.length) (inn : Nat) (hi : inn ≤ u.size) : ((enc u a[j]).drop inn) <+: (flatD (a.map (encD u))).drop (j * u.size + inn) := by
 have e : a = a.take j ++ (a[j] :: a.drop (j + 1)) := by rw [List.getElem_cons_drop, List.take_append_drop]
 rw [flat_enc]
 have e2 : a.flatMap (enc u) = (a.take j).flatMap (enc u) ++ (enc u a[j] ++ (a.drop (j + 1)).flatMap (enc u)) := by
  conv => lhs; rw [e]
  rw [List.flatMap_append, List.flatMap_cons]
 rw [e2]
 have hl : ((a.take j).flatMap (enc u)).length = j * u.size := by rw [flatMap_len, List.length_take, Nat.min_eq_left (by omega)]
 have hd : ((a.take j).flatMap (enc u)).drop (j * u.size + inn) = [] := List.drop_eq_nil_of_le (by rw [hl]; exact Nat.le_add_right _ _)
 rw [List.drop_append, hd, List.nil_append, hl, Nat.add_sub_cancel_left, List.drop_append_of_le_length (by rw [enc_len]; exact hi)]
 exact List.prefix_append _ _
def isSl (P : Program) (t : TypeId) : Bool := (telem P t).isSome
def vecOp (P : Program) (p : Name) (y : Sy) (o : Oper) : Option (Bs × Sy) :=
 let nv := y.g.length
 match o.op with
 | .nilCheck x => match y.get x with
  | some (.vpt n u i inn) => some ([], y.put o.dst (.vpt n u i inn))
  | _ => none
 | .fieldAddr t x i => match tfield P t i, y.get x with
  | some (off, ft), some (.vpt n u j inn) => if tsz P ft ≠ 0 then some ([], y.put o.dst (.vpt n u j (inn + off))) else none
  | _, _ => none
 | .indexAddr t x ix => match telem P t, y.get x, (y.get ix).bind asI with
  | some e, some (.vsl n), some (q, i) => match lookN n y.vc with
   | some (u, l) => if tsz P e ≠ 0 ∧ u.size = tsz P e then some ([(.r2 .idx l i, u)], (y.more [u]).put o.dst (.vpt n u i 0)) else none
   | none => none
  | _, _, _ => none
 | .load t x => match tagg P t, y.get x with
  | some ag, some (.vpt n u i inn) => match lookN n y.vc with
   | some (u', l) => if u' = u ∧ (ag = false → tsz P t ≠ 0) ∧ inn ≤ u.size then (match loadE ag (tyD P t) inn (tsz P t) u (.var nv) with
    | some (v, e) => some ([(.r2 .idx l i, u)], (y.more [u]).put o.dst (.e v e))
    | none => none) else none
   | none => none
  | _, _ => none
 | .store t a x => match y.get a, y.get x with
  | some (.vpt n u i inn), some v => match lookN n y.vc, asE (tyD P t) (coeS (tyD P t) v) with
   | some (u', l), some (w, e) => if u' = u ∧ w.size = tsz P t ∧ tsz P t ≠ 0 ∧ inn + w.size ≤ u.size ∧ (sizeS (coeS (tyD P t) v)).isSome = true then
     (if w = u ∧ inn = 0 then some ([(.r3 .lset l i e, .sl u)], ({ y.more [.sl u] with vc := setN n (u, .var nv) y.vc } : Sy).put o.dst .dead)
     else if u.ag = some true ∧ (inn ≠ 0 ∨ w.size ≠ u.size) ∧ ty2 (.upd inn) u w = some u then some ([(.r2 .idx l i, u), (.r3 .lset l i (.p2 (.upd inn) (.var nv) e), .sl u)], ({ y.more [u, .sl u] with vc := setN n (u, .var (nv + 1)) y.vc } : Sy).put o.dst .dead)
     else none) else none
   | _, _ => none
  | _, _ => none
 | .call c => match c.callee with
  | .builtin .len => match c.args.toList, c.argTypes.toList with
   | [x], t :: _ => match y.get x with
    | some (.vsl n) => match lookN n y.vc with
     | some (_, l) => if isSl P t = true then some ([], y.put o.dst (.e (.int .i64) (.p1 .len l))) else none
     | none => none
    | _ => none
   | _, _ => none
  | .builtin .append => match c.args.toList, c.argTypes.toList with
   | [x, z], t :: u :: _ => match y.get x, y.get z with
    | some (.vsl n), some b => match lookN n y.vc, telem P t, asS (tyD P u) b with
     | some (w', l), some e, some (w, ye) => if telem P u = some e ∧ tsz P e ≠ 0 ∧ isCells (tzero P e) = true ∧ (tzero P e).cells.length = tsz P e ∧ w.size = tsz P e ∧ tbytes P e ≠ 0 ∧ w = w' then
       some ([(.r2 (.app (tbytes P e)) l ye, .sl w)], ({ ((y.strip n).more [.sl w]) with ow := n :: (y.strip n).ow, vc := (n, (w, .var nv)) :: (y.strip n).vc } : Sy).put o.dst (.vsl n)) else none
     | _, _, _ => none
    | _, _ => none
   | _, _ => none
  | _ => none
 | _ => none
section
variable {P : Program} {S : Sems} {CS : Calls'} {env : List Val} {y : Sy} {s : Sa} {p : Name} {o : Oper} {k : Sa → Prop}
theorem wrap_d {u : Ty} {x : u.den} {cs : List D} (h : u.ag = some true) (hc : enc u x = cs) : encD u x = .agg cs := by rw [encD_ag h, hc]
theorem set_whole {u : Ty} (a : List u.den) (j : Nat) (hj : j < a.length) (b : u.den) (hz : u.size ≠ 0) : setE u.size (j * u.size + 0) (encD u b) (a.map (encD u)) = (a.set j b).map (encD u) := by
 have h1 : (j * u.size + 0) / u.size = j := by rw [Nat.add_zero, Nat.mul_div_cancel _ (Nat.pos_of_ne_zero hz)]
 have h2 : (j * u.size + 0) % u.size = 0 := by rw [Nat.add_zero, Nat.mul_mod_left]
 unfold setE
 rw [h1, h2, List.getElem?_map, List.getElem?_eq_getElem hj]
 simp only [Option.map_some]
 rw [if_pos ⟨trivial, by rw [encD_cells, encD_cells, enc_len, enc_len]⟩, List.map_set]
theorem set_part {u w : Ty} (a : List u.den) (j : Nat) (hj : j < a.length) {inn : Nat} (b : w.den) (c : u.den) (hag : u.ag = some true) (hin : inn + w.size ≤ u.size) (hne : inn ≠ 0 ∨ w.size ≠ u.size) (hw : w.size ≠ 0) (hc : enc u c = over (enc u a[j]) (enc w b) inn) :
  setE u.size (j * u.size + inn) (encD w b) (a.map (encD u)) = (a.set j c).map (encD u) := by
 have hz : 0 < u.size := by omega
 have h1 : (j * u.size + inn) / u.size = j := by rw [Nat.mul_comm, Nat.mul_add_div hz, Nat.div_eq_of_lt (by omega), Nat.add_zero]
 have h2 : (j * u.size + inn) % u.size = inn := by rw [Nat.mul_comm, Nat.mul_add_mod, Nat.mod_eq_of_lt (by omega)]
 unfold setE
 rw [h1, h2, List.getElem?_map, List.getElem?_eq_getElem hj]
 simp only [Option.map_some]
 rw [if_neg (by rw [encD_cells, encD_cells, enc_len, enc_len]; omega), List.map_set]
 congr 1
 rw [encD_cells, encD_cells, encD_ag hag c, hc]
 rfl
theorem vecOp_ok {bs : Bs} {y' : Sy} (hI : Inst env y s) (hw : EnvWf env) (h : vecOp P p y o = some (bs, y')) (hb : okBs CS bs env fun e => ∀ s', Inst e y' s' → k s') : evOp P S p o s k := by
 unfold vecOp at h
 simp only at h
 split at h
 ·rename_i x hop
  split at h
  ·rename_i n u i inn hx
   cases h
   have hv := hI.get hx
   simp only [InstV] at hv
   obtain ⟨q, j, h1, h2, h3⟩ := hv
   simp only [evOp, hop, h3]
   exact hb _ (hI.put o.dst (by simp only [InstV]; exact ⟨q, j, h1, h2, rfl⟩))
  ·cases h
 ·rename_i t x i hop
  split at h
  ·rename_i off ft n u e inn hf hx
   split at h
   ·rename_i hz
    cases h
    have hv := hI.get hx
    simp only [InstV] at hv
    obtain ⟨q, j, h1, h2, h3⟩ := hv
    simp only [evOp, hop, hf, h3]
    exact ⟨hz, hb _ (hI.put o.dst (by simp only [InstV]; exact ⟨q, j, h1, h2, by rw [Nat.add_assoc]⟩))⟩
   ·cases h
  ·cases h
 ·rename_i t x ix hop
  split at h
  ·rename_i e n q i he hx hix
   split at h
   ·rename_i u l hl
    split at h
    ·rename_i hc
     cases h
     have hv := hI.get hx
     simp only [InstV] at hv
     obtain ⟨z, hz1, hz2⟩ := Option.bind_eq_some_iff.1 hix
     obtain ⟨j, g1, g2⟩ := asI_ok hz2 (hI.get hz1)
     obtain ⟨a, e1, e2⟩ := (hI.vc.look).1 hl
     obtain ⟨c, r1, r2, r3⟩ := ok_last hI.len hb
     obtain ⟨a', b', r, c', x1, x2, x3, x4, x5⟩ := r1
     rw [e1] at x1; cases x1
     rw [g1] at x2; cases x2
     simp only [rel2, Option.some.injEq] at x3
     subst x3
     simp only at x4
     split at x4
     ·rename_i hn
      cases x5
      obtain ⟨hlt, hget⟩ := List.getElem?_eq_some_iff.1 x4
      simp only [evOp, hop, g2, intOfV, he, hv, sliceOf, e2]
      refine ⟨hc.1, hc.2, hn, by rw [List.length_map]; omega, r2 _ ?_⟩
      have h4 := hI.snoc (⟨u, c⟩ : Val)
      refine h4.put o.dst ?_
      simp only [InstV]
      exact ⟨q, j, E.val_app _ g1, hn, by rw [Nat.add_zero, hc.2]⟩
     ·cases x4
    ·cases h
   ·cases h
  ·cases h
 ·rename_i t x hop
  split at h
  ·rename_i ag n u i inn hag hx
   split at h
   ·rename_i u' l hl
    split at h
    ·rename_i hc
     obtain ⟨rfl, hz, hin⟩ := hc
     split at h
     ·rename_i v e hle
      cases h
      have hv := hI.get hx
      simp only [InstV] at hv
      obtain ⟨q, j, g1, g2, g3⟩ := hv
      obtain ⟨a, e1, e2⟩ := (hI.vc.look).1 hl
      obtain ⟨c, r1, r2, r3⟩ := ok_last hI.len hb
      obtain ⟨a', b', r, c', x1, x2, x3, x4, x5⟩ := r1
      rw [e1] at x1; cases x1
      rw [g1] at x2; cases x2
      simp only [rel2, Option.some.injEq] at x3
      subst x3
      simp only at x4
      rw [if_pos g2] at x4
      cases x5
      obtain ⟨hlt, hget⟩ := List.getElem?_eq_some_iff.1 x4
      subst hget
      have hp := flat_at a hlt inn hin
      obtain ⟨t1, t2⟩ := takeD_e hle r3 hp
      simp only [evOp, hop, hag, g3, e2]
      exact ⟨hz, t2, r2 _ ((hI.snoc (⟨u', a[j.toNat]⟩ : Val)).put o.dst t1)⟩
     ·cases h
    ·cases h
   ·cases h
  ·cases h
 ·rename_i t a x hop
  split at h
  ·rename_i n u i inn v ha hx
   split at h
   ·rename_i u' l w e hl has
    split at h
    ·rename_i hc
     obtain ⟨rfl, hws, htz, hin, hsz⟩ := hc
     have hv := hI.get ha
     simp only [InstV] at hv
     obtain ⟨q, j, g1, g2, g3⟩ := hv
     obtain ⟨al, e1, e2⟩ := (hI.vc.look).1 hl
     have hvv := coeS_ok (w := tyD P t) (hI.get hx)
     obtain ⟨b, f1, f2⟩ := asE_ok has hvv
     obtain ⟨nn, hnn⟩ := Option.isSome_iff_exists.1 hsz
     have hcells := (sizeS_ok hnn hvv).2
     have hdl : (encD w b).cells.length = tsz P t := by rw [encD_cells, enc_len]; exact hws
     have hu0 : u'.size ≠ 0 := by omega
     have common : ∀ (hlt : j.toNat < al.length) (xs' : List D), setE u'.size (j.toNat * u'.size + inn) (encD w b) (al.map (encD u')) = xs' → k ({ s with vc := Ab.setN n (u'.size, xs') s.vc }.put o.dst .dead) → evOp P S p o s k := by
      intro hlt xs' hxs hk
      have d1 : (j.toNat * u'.size + inn) / u'.size = j.toNat ∨ inn = u'.size := by
       by_cases h : inn < u'.size
       ·left; rw [Nat.mul_comm, Nat.mul_add_div (by omega), Nat.div_eq_of_lt h, Nat.add_zero]
       ·right; omega
      have hin' : inn < u'.size := by omega
      have d2 : (j.toNat * u'.size + inn) / u'.size = j.toNat := by
       rw [Nat.mul_comm, Nat.mul_add_div (by omega), Nat.div_eq_of_lt hin', Nat.add_zero]
      have d3 : (j.toNat * u'.size + inn) % u'.size = inn := by
       rw [Nat.mul_comm, Nat.mul_add_mod, Nat.mod_eq_of_lt hin']
      simp only [evOp, hop, g3, e2, f2]
      refine ⟨htz, hcells, hdl, by rw [d3]; omega, by rw [d2, List.length_map]; exact hlt, ?_⟩
      rw [hxs]; exact hk
     split at h
     ·rename_i hwh
      obtain ⟨rfl, rfl⟩ := hwh
      cases h
      obtain ⟨c, r1, r2, r3⟩ := ok_last hI.len hb
      obtain ⟨a', b', d', r, c', x1, x2, x3, x4, x5, x6⟩ := r1
      rw [e1] at x1; cases x1
      rw [g1] at x2; cases x2
      rw [f1] at x3; cases x3
      simp only [rel3, dif_pos, Option.some.injEq] at x4
      subst x4
      simp only at x5
      split at x5
      ·rename_i hlt
       cases x5; cases x6
       refine common hlt.2 _ (set_whole al j.toNat hlt.2 b hu0) (r2 _ ?_)
       have h4 := hI.snoc (⟨.sl w, al.set j.toNat b⟩ : Val)
       have h5 : Inst (env ++ [⟨.sl w, al.set j.toNat b⟩]) ({ y.more [.sl w] with vc := Ab.setN n (w, .var y.g.length) y.vc } : Sy) ({ s with vc := Ab.setN n (w.size, (al.set j.toNat b).map (encD w)) s.vc } : Sa) :=
        ⟨h4.g, h4.rd, h4.n, h4.ts, h4.sv, h4.bx, h4.lp, h4.ow, InstC.set r3 h4.vc⟩
       exact h5.put o.dst rfl
      ·cases x5
     ·split at h
      ·rename_i hpt
       obtain ⟨hag, hne, hty⟩ := hpt
       cases h
       obtain ⟨v1, v2, v3, v4⟩ := hb
       obtain ⟨a', b', r, c', x1, x2, x3, x4, x5⟩ := v3
       rw [e1] at x1; cases x1
       rw [g1] at x2; cases x2
       simp only [rel2, Option.some.injEq] at x3
       subst x3
       simp only at x4
       rw [if_pos g2] at x4
       cases x5
       obtain ⟨hlt, hget⟩ := List.getElem?_eq_some_iff.1 x4
       subst hget
       have hlen1 : (env ++ [(⟨u', al[j.toNat]⟩ : Val)]).length = y.g.length + 1 := by rw [List.length_append, hI.len]; rfl
       obtain ⟨c, r1, r2, r3⟩ := ok_last hlen1 v4
       obtain ⟨a', b', d', r, c', x1, x2, x3, x4', x5', x6⟩ := r1
       rw [E.val_app _ e1] at x1; cases x1
       rw [E.val_app _ g1] at x2; cases x2
       have hlast : (E.var y.g.length).val (env ++ [(⟨u', al[j.toNat]⟩ : Val)]) = some ⟨u', al[j.toNat]⟩ := var_last hI.len
       obtain ⟨ff, p1, p2⟩ := val2 (o := .upd inn) hty hlast (E.val_app [(⟨u', al[j.toNat]⟩ : Val)] f1)
       rw [p2] at x3; cases x3
       simp only [rel3, dif_pos, Option.some.injEq] at x4'
       subst x4'
       simp only at x5'
       split at x5'
       ·cases x5'; cases x6
        have hup : updF u' w inn = some ⟨u', ff⟩ := p1
        obtain ⟨_, _, _, q4⟩ := updF_enc _ _ _ _ _ hup
        refine common hlt _ (set_part al j.toNat hlt b (ff al[j.toNat] b) hag hin hne (by omega) (q4 _ _)) (r2 _ ?_)
        have h4 := (hI.snoc (⟨u', al[j.toNat]⟩ : Val)).snoc (⟨.sl u', al.set j.toNat (ff al[j.toNat] b)⟩ : Val)
        have h5 : Inst (env ++ [(⟨u', al[j.toNat]⟩ : Val)] ++ [⟨.sl u', al.set j.toNat (ff al[j.toNat] b)⟩]) ({ y.more [u', .sl u'] with vc := Ab.setN n (u', .var (y.g.length + 1)) y.vc } : Sy) ({ s with vc := Ab.setN n (u'.size, (al.set j.toNat (ff al[j.toNat] b)).map (encD u')) s.vc } : Sa) :=
         ⟨by have := h4.g; simpa [Sy.more] using this, h4.rd, h4.n, h4.ts, h4.sv, h4.bx, h4.lp, h4.ow, InstC.set r3 h4.vc⟩
        exact h5.put o.dst rfl
       ·cases x5'
      ·cases h
    ·cases h
   ·cases h
  ·cases h
 ·rename_i c hop
  split at h
  ·rename_i hcl
   split at h
   ·rename_i x t ts hx ht
    split at h
    ·rename_i n hn
     split at h
     ·rename_i u l hl
      split at h
      ·rename_i ht2
       cases h
       have hv := hI.get hn
       simp only [InstV] at hv
       obtain ⟨a, e1, e2⟩ := (hI.vc.look).1 hl
       obtain ⟨e, he⟩ := Option.isSome_iff_exists.1 ht2
       have hu := telem_inv he
       simp only [evOp, hop, hcl, hx, ht, List.map_cons, List.map_nil, hv, sliceOf, he, hu, e2]
       refine hb _ (hI.put o.dst ?_)
       simp only [InstV]
       refine ⟨(a.length : Int), ?_, by rw [List.length_map]; rfl⟩
       simp [E.val, app1, e1, prim1]
      ·cases h
     ·cases h
    ·cases h
   ·cases h
  ·rename_i hcl
   split at h
   ·rename_i x z t u ts hx ht
    split at h
    ·rename_i n b hn hz
     split at h
     ·rename_i w' l e w ye hl he has
      split at h
      ·rename_i hc
       obtain ⟨c1, c2, c3, c4, c5, c6, rfl⟩ := hc
       cases h
       have hv := hI.get hn
       simp only [InstV] at hv
       obtain ⟨a, e1, e2⟩ := (hI.vc.look).1 hl
       obtain ⟨ys, f1, f2⟩ := asS_ok has (hI.get hz)
       obtain ⟨r, r1, r2, r3⟩ := ok_last hI.len hb
       obtain ⟨a', b', rr, cc, x1, x2, x3, x4, x5⟩ := r1
       rw [e1] at x1; cases x1
       rw [f1] at x2; cases x2
       simp only [rel2, dif_pos, if_pos c6, Option.some.injEq] at x3
       subst x3
       simp only at x4
       split at x4
       ·rename_i hle
        cases x4; cases x5
        have hall : ∀ d ∈ ys.map (encD w), d.cells.length = tsz P e := fun d hd => by
         obtain ⟨q, _, rfl⟩ := List.mem_map.1 hd
         rw [encD_cells, enc_len]; exact c5
        have hlen : a.length + ys.length ≤ 9223372036854775807 := by
         have := Nat.le_mul_of_pos_right (a.length + ys.length) (Nat.pos_of_ne_zero c6)
         omega
        simp only [evOp, hop, hcl, hx, ht, List.map_cons, List.map_nil, he, f2, hv, e2]
        refine ⟨c1, c2, c3, c4, hall, c5, by rw [List.length_map, List.length_map]; exact hle, by rw [List.length_map, List.length_map]; exact hlen, r2 _ ?_⟩
        have h4 := (hI.strip n).snoc (⟨.sl w, a ++ ys⟩ : Val)
        have h5 : Inst (env ++ [⟨.sl w, a ++ ys⟩]) ({ ((y.strip n).more [.sl w]) with ow := n :: (y.strip n).ow, vc := (n, (w, .var y.g.length)) :: (y.strip n).vc } : Sy) ({ s.strip n with ow := n :: (s.strip n).ow, vc := (n, (w.size, a.map (encD w) ++ ys.map (encD w))) :: (s.strip n).vc } : Sa) :=
         ⟨h4.g, h4.rd, h4.n, h4.ts, h4.sv, h4.bx, h4.lp, by have := h4.ow; simp only [Sy.more] at this; simp only [this], ⟨a ++ ys, _, by rw [List.map_append], r3, h4.vc⟩⟩
        exact h5.put o.dst rfl
       ·cases x4
      ·cases h
     ·cases h
    ·cases h
   ·cases h
  ·cases h
 ·cases h
end
end Go.Tx
namespace Go.Tx
set_option linter.unusedVariables false
set_option linter.unusedSimpArgs false
open Go Go.Ab
def reduceG (gs : List E) (z : SV) : SV := match z with
 | .gd hs x => match hs.filter (fun h => !(gs.any (fun g => g.same h))) with
  | [] => x
  | hs' => .gd hs' x
 | z => z
def typedB (Γ : List Ty) : SV → Bool
 | .e t x => decide (tyE Γ x = some t)
 | .ref t x _ => decide (tyE Γ x = some t)
 | .own _ _ t x => decide (tyE Γ x = some (.sl t))
 | _ => true
def finE (n0 : Nat) (bs : Bs) (z : SV) : Bs × SV := match z with
 | .e t x => if 24 < x.size then (bs ++ [(.lets x, t)], .e t (.var (n0 + bs.length))) else (bs, z)
 | z => (bs, z)
def opS (P : Program) (tb : Tab) (p : Name) (y : Sy) (o : Oper) : Option (Bs × Sy) :=
 match valOp P tb y y.get o.op with
 | some (bs, z) => some ((finE y.g.length bs z).1, (y.more ((finE y.g.length bs z).1.map (·.2))).put o.dst (finE y.g.length bs z).2)
 | none => match stOp P p y o with
  | some r => some r
  | none => vecOp P p y o
def opG (P : Program) (tb : Tab) (y : Sy) (o : Oper) (gs : List E) : Option (Bs × Sy) :=
 match valOp P tb y (fun x => (y.get x).map (reduceG gs)) o.op with
 | some (bs, z) => if typedB (y.g ++ bs.map (·.2)) z = true then some (bs.map (fun b => (.ifb gs b.1 b.2, b.2)), (y.more (bs.map (·.2))).put o.dst (.gd gs z)) else none
 | none => none
def dstOK (n : Nat) : Option Tmp → Bool
 | some d => decide (d < n)
 | none => true
def oneOp (P : Program) (tb : Tab) (p : Name) (ops : Array Oper) (y : Sy) (o : Oper) : Option (Bs × Sy) :=
 if dstOK y.n o.dst = true then (match o.guard with
  | none => opS P tb p y o
  | some (j, want) => match (ops[j]?).bind (·.dst) with
   | some t => match lkS t y.ts with
    | .e .bool (.bool b) => if b = want then opS P tb p y o else some ([], y.put o.dst (.tup []))
    | .e .bool c => opG P tb y o [if want then c else .p1 .not c]
    | .gd gs (.e .bool c) => opG P tb y o (gs ++ [if want then c else .p1 .not c])
    | .tup [] => some ([], y.put o.dst (.tup []))
    | _ => none
   | none => none) else none
section
variable {P : Program} {S : Sems} {env : List Val} {y : Sy} {s : Sa} {p : Name} {o : Oper} {k : Sa → Prop} {tb : Tab}
theorem holds_mem {gs : List E} (h : holds env gs = some true) : ∀ g ∈ gs, g.val env = some ⟨.bool, true⟩ := by
 induction gs with
 | nil => simp
 | cons g gs ih =>
  simp only [holds] at h
  split at h
  ·rename_i b r h1 h2
   simp only [Option.some.injEq, Bool.and_eq_true] at h
   obtain ⟨rfl, rfl⟩ := h
   intro x hx
   rcases List.mem_cons.1 hx with rfl | hx
   ·exact h1
   ·exact ih h2 x hx
  ·cases h
theorem holds_filter {gs : List E} (h : holds env gs = some true) : ∀ {hs : List E} {b : Bool}, holds env hs = some b → holds env (hs.filter (fun h => !(gs.any (fun g => g.same h)))) = some b
 | [], b, e => e
 | x :: hs, b, e => by
  simp only [holds] at e
  split at e
  ·rename_i c r h1 h2
   cases e
   have ih := holds_filter h h2
   simp only [List.filter_cons]
   split
   ·simp only [holds, h1, ih]
   ·rename_i hn
    simp only [Bool.not_eq_true', Bool.not_eq_false] at hn
    obtain ⟨g, hg, hs'⟩ := List.any_eq_true.1 hn
    have := E.same_eq hs'
    subst this
    have h3 := holds_mem h g hg
    rw [h1] at h3; cases h3
    simpa using ih
  ·cases e
theorem reduceG_ok {gs : List E} (h : holds env gs = some true) {z : SV} {v : V} (hv : InstV env z v) : InstV env (reduceG gs z) v := by
 unfold reduceG
 split
 ·rename_i hs x
  have hv' := hv
  simp only [InstV] at hv
  obtain ⟨b, h1, h2, h3, h4⟩ := hv
  have hf := holds_filter h h1
  split
  ·rename_i he
   rw [he] at hf
   simp only [holds] at hf; cases hf
   exact h3 rfl
  ·simp only [InstV]
   exact ⟨b, hf, h2, h3, h4⟩
 ·exact hv
theorem typedB_ok {Γ : List Ty} (hg : env.map (·.1) = Γ) {z : SV} (h : typedB Γ z = true) : typed env z := by
 cases z <;> simp only [typedB, decide_eq_true_eq] at h <;> simp only [typed]
 ·exact tyE_ok hg h
 ·exact tyE_ok hg h
 ·exact tyE_ok hg h
theorem Inst.ext {env l : List Val} {ts : List Ty} (hI : Inst env y s) (h : l.map (·.1) = ts) : Inst (env ++ l) (y.more ts) s := by
 subst h; exact hI.app l
theorem nx_of {CS : Calls'} {bs : Bs} {z : SV} (hI : Inst env y s) (h : okBs CS bs env fun e => ∀ s', Inst e ((y.more (bs.map (·.2))).put o.dst z) s' → k s') : okBs CS bs env (Nx o s k z) := by
 refine okBs_mono ?_ (okBs_ext h)
 rintro e ⟨⟨l, e1, e2⟩, hq⟩ v hv
 subst e1
 exact hq _ ((hI.ext e2).put o.dst hv)
theorem finE_ok {CS : Calls'} {bs : Bs} {z : SV} (hI : Inst env y s) (h : okBs CS (finE y.g.length bs z).1 env fun e => ∀ s', Inst e ((y.more ((finE y.g.length bs z).1.map (·.2))).put o.dst (finE y.g.length bs z).2) s' → k s') :
  okBs CS bs env (Nx o s k z) := by
 unfold finE at h
 split at h
 ·rename_i t x
  split at h
  ·rw [okBs_app] at h
   refine okBs_mono ?_ (okBs_ext h)
   rintro e ⟨⟨l, e1, e2⟩, hq⟩ v hv
   subst e1
   simp only [okBs] at hq
   obtain ⟨w, w1, w2, w3⟩ := hq
   simp only [InstV] at hv
   obtain ⟨a, h1, rfl⟩ := hv
   have w2' : x.val (env ++ l) = some w := w2
   rw [h1] at w2'
   cases w2'
   rw [List.append_assoc] at w3
   refine w3 _ ((hI.ext (l := l ++ [⟨t, a⟩]) (by simp [e2])).put o.dst ?_)
   simp only [InstV]
   refine ⟨a, ?_, rfl⟩
   rw [← List.append_assoc]
   refine var_last ?_
   have := congrArg List.length e2
   simp only [List.length_map] at this
   rw [List.length_append, hI.len, this]
  ·exact nx_of hI h
 ·exact nx_of hI h
theorem opS_ok (hS : PureS P S) (hI : Inst env y s) (hw : EnvWf env) (hd : ∀ d, o.dst = some d → d < s.n) {bs : Bs} {y' : Sy} (h : opS P tb p y o = some (bs, y')) (hb : okBs (CallV P) bs env fun e => ∀ s', Inst e y' s' → k s') : evOp P S p o s k := by
 unfold opS at h
 split at h
 ·rename_i bs' z hv
  cases h
  exact valOp_ok hS (fun o x hx => hI.get hx) hI hw hd hv (finE_ok hI hb)
 ·split at h
  ·rename_i r hst
   cases h
   exact stOp_ok hI hst hb
  ·exact vecOp_ok hI hw h hb
theorem okBs_if {CS : Calls'} {gs : List E} : ∀ {bs : Bs} {env : List Val} {Q : List Val → Prop} {c : Bool}, holds env gs = some c → okBs CS (bs.map fun b => (B.ifb gs b.1 b.2, b.2)) env Q →
  (c = true → okBs CS bs env Q) ∧ (c = false → ∃ l : List Val, l.map (·.1) = bs.map (·.2) ∧ Q (env ++ l))
 | [], env, Q, c, hc, h => ⟨fun _ => h, fun _ => ⟨[], rfl, by rw [List.append_nil]; exact h⟩⟩
 | b :: bs, env, Q, c, hc, h => by
  simp only [List.map_cons, okBs] at h
  obtain ⟨v, v1, ⟨c', v2, v3, v4⟩, v5⟩ := h
  rw [hc] at v2; cases v2
  have ih := okBs_if (holds_app [v] hc) v5
  refine ⟨fun e => ⟨v, v1, (v3 e).1, ih.1 e⟩, fun e => ?_⟩
  obtain ⟨l, l1, l2⟩ := ih.2 e
  exact ⟨v :: l, by simp [v1, l1], by simpa using l2⟩
theorem opG_ok (hS : PureS P S) (hI : Inst env y s) (hw : EnvWf env) (hd : ∀ d, o.dst = some d → d < s.n) {gs : List E} {c : Bool} (hc : holds env gs = some c) {bs : Bs} {y' : Sy} (h : opG P tb y o gs = some (bs, y')) (hb : okBs (CallV P) bs env fun e => ∀ s', Inst e y' s' → k s') :
  (c = true → evOp P S p o s k) ∧ (c = false → k (s.put o.dst (.tup []))) := by
 unfold opG at h
 split at h
 ·rename_i bs' z hv
  split at h
  ·rename_i ht
   cases h
   obtain ⟨h1, h2⟩ := okBs_if hc hb
   refine ⟨fun e => ?_, fun e => ?_⟩
   ·subst e
    refine valOp_ok hS (fun o x hx => ?_) hI hw hd hv ?_
    ·obtain ⟨x', g1, rfl⟩ := Option.map_eq_some_iff.1 hx
     exact reduceG_ok hc (hI.get g1)
    ·refine okBs_mono ?_ (okBs_ext (h1 rfl))
     rintro e ⟨⟨l, e1, e2⟩, hq⟩ v hv
     subst e1
     have h3 := hI.ext e2
     refine hq _ (h3.put o.dst ?_)
     simp only [InstV]
     exact ⟨true, holds_app l hc, typedB_ok h3.g ht, fun _ => hv, fun e => nomatch e⟩
   ·subst e
    obtain ⟨l, l1, l2⟩ := h2 rfl
    have h3 := hI.ext l1
    refine l2 _ (h3.put o.dst ?_)
    simp only [InstV]
    exact ⟨false, holds_app l hc, typedB_ok h3.g ht, fun e => (nomatch e), fun _ => trivial⟩
  ·cases h
 ·cases h
theorem setT_self {t : Nat} {v : V} : ∀ {l : List (Nat × V)}, lkT t l = v → v ≠ .dead → setT t v l = l
 | [], h, hn => absurd h.symm hn
 | (a, b) :: l, h, hn => by
  simp only [lkT] at h
  simp only [setT]
  split at h
  ·rename_i e; rw [if_pos e, h]
  ·rename_i e; rw [if_neg e, setT_self h hn]
theorem put_self {t : Nat} {v : V} (h : lkT t s.ts = v) (hn : v ≠ .dead) : s.put (some t) v = s := by
 simp only [Sa.put, setT_self h hn]
theorem holds_snoc {gs : List E} {g : E} {b c : Bool} (h1 : holds env gs = some b) (h2 : g.val env = some ⟨.bool, c⟩) : holds env (gs ++ [g]) = some (b && c) := by
 induction gs generalizing b with
 | nil => cases h1; simp [holds, h2]
 | cons x gs ih =>
  simp only [holds] at h1
  split at h1
  ·rename_i d r e1 e2
   cases h1
   simp only [List.cons_append, holds, e1, ih e2, Bool.and_assoc]
  ·cases h1
theorem wantE_val {c : E} {b : Bool} (want : Bool) (h : c.val env = some ⟨.bool, b⟩) : (if want = true then c else .p1 .not c).val env = some ⟨.bool, b == want⟩ := by
 cases want with
 | true => simp [h]
 | false => cases b <;> simp [E.val, app1, h, prim1]
theorem oneOp_ok (hS : PureS P S) {ops : Array Oper} {rest : List Oper} (hI : Inst env y s) (hw : EnvWf env) {bs : Bs} {y' : Sy} (h : oneOp P tb p ops y o = some (bs, y'))
  (hb : okBs (CallV P) bs env fun e => ∀ s', Inst e y' s' → evOps P S p ops rest s' k) : evOps P S p ops (o :: rest) s k := by
 unfold oneOp at h
 split at h
 ·rename_i hdst
  have hd : match o.dst with | some d => d < s.n | none => True := by
   cases hdd : o.dst with
   | none => trivial
   | some d => rw [hdd] at hdst; simp only [dstOK, decide_eq_true_eq] at hdst; show d < s.n; rw [hI.n]; exact hdst
  have hd' : ∀ d, o.dst = some d → d < s.n := fun d e => by rw [e] at hd; exact hd
  simp only [evOps]
  refine ⟨hd, ?_⟩
  split at h
  ·rename_i hg
   simp only [hg]
   exact opS_ok hS hI hw hd' h hb
  ·rename_i j want hg
   simp only [hg]
   split at h
   ·rename_i t ht
    simp only [ht]
    have hlk := hI.ts.lk (t := t)
    have known : ∀ {c : E} {b : Bool} {gs : List E} {r : Bool}, c.val env = some ⟨.bool, b⟩ → lkT t s.ts = .d (.v (.bool b)) → holds env gs = some (r && (b == want)) → r = true → opG P tb y o gs = some (bs, y') →
      CaseB b (let s1 := s.put (some t) (.d (.v (.bool true))); if want = true then evOp P S p o s1 (fun s' => evOps P S p ops rest s' k) else evOps P S p ops rest (s1.put o.dst (.tup [])) k)
       (let s1 := s.put (some t) (.d (.v (.bool false))); if want = true then evOps P S p ops rest (s1.put o.dst (.tup [])) k else evOp P S p o s1 (fun s' => evOps P S p ops rest s' k)) := by
     intro c b gs r hc hl hh hr ho
     subst hr
     rw [Bool.true_and] at hh
     obtain ⟨h1, h2⟩ := opG_ok (k := fun s' => evOps P S p ops rest s' k) (p := p) hS hI hw hd' hh ho hb
     cases b with
     | true =>
      simp only [caseB_true]
      rw [put_self hl (by simp)]
      cases want with
      | true => exact h1 rfl
      | false => exact h2 rfl
     | false =>
      simp only [caseB_false]
      rw [put_self hl (by simp)]
      cases want with
      | true => exact h2 rfl
      | false => exact h1 rfl
    split at h
    ·rename_i b hb0
     rw [hb0] at hlk
     simp only [InstV] at hlk
     obtain ⟨a, h1, h2⟩ := hlk
     cases h1
     rw [h2, encD_bool]
     simp only
     have hp := put_self (s := s) h2 (by simp)
     rw [encD_bool] at hp
     split at h
     ·rename_i e
      subst e
      have := opS_ok (k := fun s' => evOps P S p ops rest s' k) (p := p) hS hI hw hd' h hb
      cases b with
      | true => simp only [caseB_true, if_true]; rw [hp]; exact this
      | false => simp only [caseB_false, Bool.false_eq_true, if_false]; rw [hp]; exact this
     ·rename_i e
      cases h
      have := hb _ (hI.put o.dst (show InstV env (.tup []) (.tup []) from ⟨[], rfl, rfl⟩))
      cases b with
      | true =>
       have hw' : want = false := by cases want <;> simp_all
       simp only [caseB_true, hw', Bool.false_eq_true, if_false]; rw [hp]; exact this
      | false =>
       have hw' : want = true := by cases want <;> simp_all
       simp only [caseB_false, hw', if_true]; rw [hp]; exact this
    ·rename_i c _ hb0
     rw [hb0] at hlk
     simp only [InstV] at hlk
     obtain ⟨b, h1, h2⟩ := hlk
     rw [h2, encD_bool]
     simp only
     rw [encD_bool] at h2
     exact known (r := true) h1 h2 (by rw [holds_one (wantE_val want h1), Bool.true_and]) rfl h
    ·rename_i gs c hb0
     rw [hb0] at hlk
     simp only [InstV, typed] at hlk
     obtain ⟨r, h1, ⟨b, h2⟩, h3, h4⟩ := hlk
     cases r with
     | true =>
      obtain ⟨b', h5, h6⟩ := h3 rfl
      rw [h2] at h5; cases h5
      rw [h6, encD_bool]
      simp only
      rw [encD_bool] at h6
      exact known (r := true) h2 h6 (holds_snoc h1 (wantE_val want h2)) rfl h
     | false =>
      rw [h4 rfl]
      simp only
      have hh := holds_snoc h1 (wantE_val want h2)
      rw [Bool.false_and] at hh
      exact (opG_ok (k := fun s' => evOps P S p ops rest s' k) (p := p) hS hI hw hd' hh h hb).2 rfl
    ·rename_i hb0
     rw [hb0] at hlk
     simp only [InstV, InstL] at hlk
     obtain ⟨cc, h1, h2⟩ := hlk
     subst h2
     cases h
     rw [h1]
     simp only
     exact hb _ (hI.put o.dst (show InstV env (.tup []) (.tup []) from ⟨[], rfl, rfl⟩))
    ·cases h
   ·cases h
 ·cases h
end
end Go.Tx
namespace Go.Tx
set_option linter.unusedVariables false
set_option linter.unusedSimpArgs false
open Go Go.Ab
def sameEs : List E → List E → Bool
 | [], [] => true
 | x :: xs, y :: ys => x.same y && sameEs xs ys
 | _, _ => false
theorem sameEs_eq : ∀ {xs ys : List E}, sameEs xs ys = true → xs = ys
 | [], [], _ => rfl
 | x :: xs, y :: ys, h => by
  simp only [sameEs, Bool.and_eq_true] at h
  rw [E.same_eq h.1, sameEs_eq h.2]
 | [], _ :: _, h => by simp [sameEs] at h
 | _ :: _, [], h => by simp [sameEs] at h
mutual
def SV.same : SV → SV → Bool
 | .e t x, .e u y => x.same y && decide (t = u)
 | .nil, .nil => true
 | .own i a t x, .own j b u y => decide (i = j) && Nat.beq a b && x.same y && decide (t = u)
 | .ptr n o, .ptr m p => decide (n = m) && Nat.beq o p
 | .aptr n o m t i a, .aptr n' o' m' t' i' a' => decide (n = n') && Nat.beq o o' && Nat.beq m m' && decide (t = t') && i.same i' && Nat.beq a a'
 | .ref t x o, .ref u y p => x.same y && Nat.beq o p && decide (t = u)
 | .fn f c, .fn g d => Nat.beq f g && SV.sameL c d
 | .yld l, .yld m => decide (l = m)
 | .mref l, .mref m => decide (l = m)
 | .mpc k t x, .mpc q u y => decide (k = q) && x.same y && decide (t = u)
 | .agg c, .agg d => SV.sameL c d
 | .mix t x os zs, .mix u y ps ws => x.same y && decide (os = ps) && decide (t = u) && SV.sameL zs ws
 | .tup c, .tup d => SV.sameL c d
 | .gd gs x, .gd hs y => sameEs gs hs && SV.same x y
 | .vsl n, .vsl m => decide (n = m)
 | .vpt n t i a, .vpt m u j b => decide (n = m) && decide (t = u) && i.same j && Nat.beq a b
 | .dead, .dead => true
 | _, _ => false
def SV.sameL : List SV → List SV → Bool
 | [], [] => true
 | x :: xs, y :: ys => SV.same x y && SV.sameL xs ys
 | _, _ => false
end
mutual
theorem SV.same_eq : ∀ (x : SV) {y : SV}, x.same y = true → x = y := by
 intro x y h
 cases x with
 | e t x => cases y <;> simp only [SV.same, Bool.false_eq_true, Bool.and_eq_true, decide_eq_true_eq] at h; rw [E.same_eq h.1, h.2]
 | nil => cases y <;> first | rfl | (simp only [SV.same, Bool.false_eq_true] at h)
 | own i a t x => cases y <;> simp only [SV.same, Bool.false_eq_true, Bool.and_eq_true, decide_eq_true_eq] at h; rw [h.1.1.1, Nat.eq_of_beq_eq_true h.1.1.2, E.same_eq h.1.2, h.2]
 | ptr n o => cases y <;> simp only [SV.same, Bool.false_eq_true, Bool.and_eq_true, decide_eq_true_eq] at h; rw [h.1, Nat.eq_of_beq_eq_true h.2]
 | aptr n o m t i a =>
  cases y <;> simp only [SV.same, Bool.false_eq_true, Bool.and_eq_true, decide_eq_true_eq] at h
  obtain ⟨⟨⟨⟨⟨h1, h2⟩, h3⟩, h4⟩, h5⟩, h6⟩ := h
  rw [h1, Nat.eq_of_beq_eq_true h2, Nat.eq_of_beq_eq_true h3, h4, E.same_eq h5, Nat.eq_of_beq_eq_true h6]
 | ref t x o => cases y <;> simp only [SV.same, Bool.false_eq_true, Bool.and_eq_true, decide_eq_true_eq] at h; rw [E.same_eq h.1.1, Nat.eq_of_beq_eq_true h.1.2, h.2]
 | fn f c => cases y <;> simp only [SV.same, Bool.false_eq_true, Bool.and_eq_true] at h; rw [Nat.eq_of_beq_eq_true h.1, SV.sameL_eq c h.2]
 | yld l => cases y <;> simp only [SV.same, Bool.false_eq_true, decide_eq_true_eq] at h; rw [h]
 | vsl l => cases y <;> simp only [SV.same, Bool.false_eq_true, decide_eq_true_eq] at h; rw [h]
 | vpt n t i a =>
  cases y <;> simp only [SV.same, Bool.false_eq_true, Bool.and_eq_true, decide_eq_true_eq] at h
  obtain ⟨⟨⟨h1, h2⟩, h3⟩, h4⟩ := h
  rw [h1, h2, E.same_eq h3, Nat.eq_of_beq_eq_true h4]
 | mref l => cases y <;> simp only [SV.same, Bool.false_eq_true, decide_eq_true_eq] at h; rw [h]
 | mpc k t x => cases y <;> simp only [SV.same, Bool.false_eq_true, Bool.and_eq_true, decide_eq_true_eq] at h; rw [h.1.1, E.same_eq h.1.2, h.2]
 | agg c => cases y <;> simp only [SV.same, Bool.false_eq_true] at h; rw [SV.sameL_eq c h]
 | mix t x os zs => cases y <;> simp only [SV.same, Bool.false_eq_true, Bool.and_eq_true, decide_eq_true_eq] at h; rw [E.same_eq h.1.1.1, h.1.1.2, h.1.2, SV.sameL_eq zs h.2]
 | tup c => cases y <;> simp only [SV.same, Bool.false_eq_true] at h; rw [SV.sameL_eq c h]
 | kd c => cases y <;> simp only [SV.same, Bool.false_eq_true] at h
 | gd gs x => cases y <;> simp only [SV.same, Bool.false_eq_true, Bool.and_eq_true] at h; rw [sameEs_eq h.1, SV.same_eq x h.2]
 | dead => cases y <;> first | rfl | (simp only [SV.same, Bool.false_eq_true] at h)
theorem SV.sameL_eq : ∀ (xs : List SV) {ys : List SV}, SV.sameL xs ys = true → xs = ys := by
 intro xs ys h
 cases xs with
 | nil => cases ys <;> first | rfl | (simp only [SV.sameL, Bool.false_eq_true] at h)
 | cons x xs =>
  cases ys with
  | nil => simp only [SV.sameL, Bool.false_eq_true] at h
  | cons y ys => simp only [SV.sameL, Bool.and_eq_true] at h; rw [SV.same_eq x h.1, SV.sameL_eq xs h.2]
end
def ltEs (n : Nat) (gs : List E) : Bool := gs.all (·.lt n)
mutual
def SV.lt (n : Nat) : SV → Bool
 | .e _ x => x.lt n
 | .own _ _ _ x => x.lt n
 | .aptr _ _ _ _ i _ => i.lt n
 | .vpt _ _ i _ => i.lt n
 | .ref _ x _ => x.lt n
 | .fn _ c => SV.ltL n c
 | .mpc _ _ x => x.lt n
 | .agg c => SV.ltL n c
 | .mix _ x _ zs => x.lt n && SV.ltL n zs
 | .tup c => SV.ltL n c
 | .gd gs x => ltEs n gs && SV.lt n x
 | _ => true
def SV.ltL (n : Nat) : List SV → Bool
 | [] => true
 | x :: xs => SV.lt n x && SV.ltL n xs
end
theorem holds_lt {env : List Val} (l : List Val) : ∀ {gs : List E}, ltEs env.length gs = true → holds (env ++ l) gs = holds env gs
 | [], _ => rfl
 | g :: gs, h => by
  simp only [ltEs, List.all_cons, Bool.and_eq_true] at h
  simp only [holds, E.val_lt l h.1, holds_lt l (gs := gs) h.2]
theorem typed_lt {env : List Val} (l : List Val) {x : SV} (h : SV.lt env.length x = true) (ht : typed (env ++ l) x) : typed env x := by
 cases x <;> simp only [typed, SV.lt] at h ht ⊢
 all_goals (rw [E.val_lt l h] at ht; exact ht)
mutual
theorem InstV.lt {env : List Val} (l : List Val) : ∀ {x : SV} {v : V}, x.lt env.length = true → InstV (env ++ l) x v → InstV env x v
 | .e t x, v, h, hv => by simp only [InstV, SV.lt] at h hv ⊢; rw [E.val_lt l h] at hv; exact hv
 | .nil, v, h, hv => hv
 | .own id sz t x, v, h, hv => by simp only [InstV, SV.lt] at h hv ⊢; rw [E.val_lt l h] at hv; exact hv
 | .ptr n off, v, h, hv => hv
 | .aptr n off m t i inn, v, h, hv => by simp only [InstV, SV.lt] at h hv ⊢; rw [E.val_lt l h] at hv; exact hv
 | .ref t x off, v, h, hv => by simp only [InstV, SV.lt] at h hv ⊢; rw [E.val_lt l h] at hv; exact hv
 | .fn f cap, v, h, hv => by simp only [InstV, SV.lt] at h hv ⊢; obtain ⟨c, h1, h2⟩ := hv; exact ⟨c, h1, InstL.lt l h h2⟩
 | .yld n, v, h, hv => hv
 | .vsl n, v, h, hv => hv
 | .vpt n t i inn, v, h, hv => by simp only [InstV, SV.lt] at h hv ⊢; rw [E.val_lt l h] at hv; exact hv
 | .mref n, v, h, hv => hv
 | .mpc k t x, v, h, hv => by simp only [InstV, SV.lt] at h hv ⊢; rw [E.val_lt l h] at hv; exact hv
 | .agg cs, v, h, hv => by simp only [InstV, SV.lt] at h hv ⊢; obtain ⟨c, h1, h2⟩ := hv; exact ⟨c, h1, InstL.lt l h h2⟩
 | .mix t x os zs, v, h, hv => by
  simp only [InstV, SV.lt, Bool.and_eq_true] at h hv ⊢
  rw [E.val_lt l h.1] at hv
  obtain ⟨a, c, h1, h2, h3, h4, h5⟩ := hv
  exact ⟨a, c, h1, h2, h3, InstP.lt l h.2 h4, h5⟩
 | .tup cs, v, h, hv => by simp only [InstV, SV.lt] at h hv ⊢; obtain ⟨c, h1, h2⟩ := hv; exact ⟨c, h1, InstL.lt l h h2⟩
 | .kd cs, v, h, hv => hv
 | .gd gs x, v, h, hv => by
  simp only [InstV, SV.lt, Bool.and_eq_true] at h hv ⊢
  rw [holds_lt l h.1] at hv
  obtain ⟨b, h1, h0, h2, h3⟩ := hv
  exact ⟨b, h1, typed_lt l h.2 h0, fun e => InstV.lt l h.2 (h2 e), h3⟩
 | .dead, v, h, hv => hv
theorem InstL.lt {env : List Val} (l : List Val) : ∀ {xs : List SV} {vs : List V}, SV.ltL env.length xs = true → InstL (env ++ l) xs vs → InstL env xs vs
 | [], vs, h, hv => hv
 | x :: xs, vs, h, hv => by
  simp only [InstL, SV.ltL, Bool.and_eq_true] at h hv ⊢
  obtain ⟨v, vs', h1, h2, h3⟩ := hv
  exact ⟨v, vs', h1, InstV.lt l h.1 h2, InstL.lt l h.2 h3⟩
theorem InstP.lt {env : List Val} (l : List Val) : ∀ {zs : List SV} {os : List Nat} {c : List V}, SV.ltL env.length zs = true → InstP (env ++ l) os zs c → InstP env os zs c
 | [], os, c, h, hv => hv
 | z :: zs, os, c, h, hv => by
  simp only [InstP, SV.ltL, Bool.and_eq_true] at h hv ⊢
  obtain ⟨i, os', h1, ⟨v, h2, h3⟩, h4⟩ := hv
  exact ⟨i, os', h1, ⟨v, h2, InstV.lt l h.1 h3⟩, InstP.lt l h.2 h4⟩
end
end Go.Tx
namespace Go.Tx
set_option linter.unusedVariables false
set_option linter.unusedSimpArgs false
open Go Go.Ab
mutual
def SV.soft (i : Name) (u : Ty) (q : E) : SV → SV
 | .own j sz t x => if j = i then .e (.sl t) x else .own j sz t x
 | .vsl n => if n = i then .own i u.size u q else .vsl n
 | .vpt n t x inn => if n = i then .dead else .vpt n t x inn
 | .fn f c => .fn f (SV.softL i u q c)
 | .agg c => .agg (SV.softL i u q c)
 | .mix t x os zs => .mix t x os (SV.softL i u q zs)
 | .tup c => .tup (SV.softL i u q c)
 | .gd gs x => .gd gs (SV.soft i u q x)
 | x => x
def SV.softL (i : Name) (u : Ty) (q : E) : List SV → List SV
 | [] => []
 | v :: vs => SV.soft i u q v :: SV.softL i u q vs
end
def Sy.soft (i : Name) (y : Sy) : Sy := match lookN i y.vc with
 | some (u, q) => { y with ts := y.ts.map fun z => (z.1, z.2.soft i u q), sv := y.sv.map (fun (f : SFr) => { f with ts := f.ts.map fun z => (z.1, z.2.soft i u q) }), bx := y.bx.map (fun x => (x.1, x.2.soft i u q)), vc := y.vc.filter (fun x => x.1 != i) }
 | none => y
section
variable {env : List Val} {u : Ty} {q : E} {a : List u.den}
theorem typed_soft (hq : q.val env = some ⟨.sl u, a⟩) {i : Name} {x : SV} (h : typed env x) : typed env (SV.soft i u q x) := by
 cases x <;> simp only [SV.soft] <;> try exact h
 ·split
  ·simp only [typed] at h ⊢; exact h
  ·exact h
 ·split
  ·exact ⟨a, hq⟩
  ·simp [typed]
 ·split <;> simp [typed]
mutual
theorem InstV.soft (hq : q.val env = some ⟨.sl u, a⟩) (i : Name) : ∀ {x : SV} {v : V}, InstV env x v → InstV env (x.soft i u q) (v.soft i u.size (a.map (encD u)))
 | .e t x, v, h => by simp only [InstV, SV.soft] at h ⊢; obtain ⟨a, h1, rfl⟩ := h; exact ⟨a, h1, rfl⟩
 | .nil, v, h => by simp only [InstV] at h; subst h; simp [SV.soft, V.soft, InstV]
 | .own j sz t x, v, h => by
  simp only [InstV] at h
  obtain ⟨a, h1, h2, rfl⟩ := h
  simp only [SV.soft, V.soft]
  split
  ·simp only [InstV]; exact ⟨a, h1, rfl⟩
  ·simp only [InstV]; exact ⟨a, h1, h2, rfl⟩
 | .ptr n off, v, h => by simp only [InstV] at h; subst h; simp [SV.soft, V.soft, InstV]
 | .aptr n off m t e inn, v, h => by simp only [InstV, SV.soft] at h ⊢; obtain ⟨k, j, h1, h2, h3, rfl⟩ := h; exact ⟨k, j, h1, h2, h3, rfl⟩
 | .ref t x off, v, h => by simp only [InstV, SV.soft] at h ⊢; obtain ⟨a, cs, h1, rfl, h2⟩ := h; exact ⟨a, cs, h1, rfl, h2⟩
 | .fn f cap, v, h => by simp only [InstV, SV.soft] at h ⊢; obtain ⟨c, rfl, h2⟩ := h; exact ⟨_, rfl, InstL.soft hq i h2⟩
 | .yld l, v, h => by simp only [InstV] at h; subst h; simp [SV.soft, V.soft, InstV]
 | .mref n, v, h => by simp only [InstV] at h; subst h; simp [SV.soft, V.soft, InstV]
 | .mpc k t x, v, h => by simp only [InstV, SV.soft] at h ⊢; obtain ⟨a, kvs, h1, rfl, h2⟩ := h; exact ⟨a, kvs, h1, rfl, h2⟩
 | .agg cs, v, h => by simp only [InstV, SV.soft] at h ⊢; obtain ⟨c, rfl, h2⟩ := h; exact ⟨_, rfl, InstL.soft hq i h2⟩
 | .mix t x os zs, v, h => by
  simp only [InstV, SV.soft] at h ⊢
  obtain ⟨b, c, h1, rfl, h3, h4, h5⟩ := h
  refine ⟨b, V.softL i u.size (a.map (encD u)) c, h1, rfl, by rw [V.softL_map, List.length_map]; exact h3, InstP.soft hq i h4, fun j hj hn => ?_⟩
  rw [V.softL_map, List.getElem?_map, h5 j hj hn]
  cases (enc t b)[j]? <;> rfl
 | .tup cs, v, h => by simp only [InstV, SV.soft] at h ⊢; obtain ⟨c, rfl, h2⟩ := h; exact ⟨_, rfl, InstL.soft hq i h2⟩
 | .kd cs, v, h => by simp only [InstV] at h; subst h; simp [SV.soft, V.soft, InstV]
 | .gd gs x, v, h => by
  simp only [InstV, SV.soft] at h ⊢
  obtain ⟨b, h1, h0, h2, h3⟩ := h
  refine ⟨b, h1, typed_soft hq h0, fun e => InstV.soft hq i (h2 e), fun e => ?_⟩
  rw [h3 e]; rfl
 | .vsl n, v, h => by
  simp only [InstV] at h; subst h
  simp only [SV.soft, V.soft]
  split
  ·simp only [InstV]; exact ⟨a, hq, trivial, rfl⟩
  ·simp [InstV]
 | .vpt n t x inn, v, h => by
  simp only [InstV] at h
  obtain ⟨k, j, h1, h2, rfl⟩ := h
  simp only [SV.soft, V.soft]
  split
  ·simp [InstV]
  ·simp only [InstV]; exact ⟨k, j, h1, h2, rfl⟩
 | .dead, v, h => by simp only [InstV] at h; subst h; simp [SV.soft, V.soft, InstV]
theorem InstL.soft (hq : q.val env = some ⟨.sl u, a⟩) (i : Name) : ∀ {xs : List SV} {vs : List V}, InstL env xs vs → InstL env (SV.softL i u q xs) (V.softL i u.size (a.map (encD u)) vs)
 | [], vs, h => by simp only [InstL] at h; subst h; simp [SV.softL, V.softL, InstL]
 | x :: xs, vs, h => by
  simp only [InstL] at h
  obtain ⟨v, vs', rfl, h2, h3⟩ := h
  simp only [SV.softL, V.softL, InstL]
  exact ⟨_, _, rfl, InstV.soft hq i h2, InstL.soft hq i h3⟩
theorem InstP.soft (hq : q.val env = some ⟨.sl u, a⟩) (i : Name) : ∀ {zs : List SV} {os : List Nat} {c : List V}, InstP env os zs c → InstP env os (SV.softL i u q zs) (V.softL i u.size (a.map (encD u)) c)
 | [], os, c, h => h
 | z :: zs, os, c, h => by
  simp only [InstP, SV.softL] at h ⊢
  obtain ⟨j, os', h1, ⟨v, h2, h3⟩, h4⟩ := h
  exact ⟨j, os', h1, ⟨v.soft i u.size (a.map (encD u)), by rw [V.softL_map, List.getElem?_map, h2]; rfl, InstV.soft hq i h3⟩, InstP.soft hq i h4⟩
end
end
theorem Inst.soft {env : List Val} {y : Sy} {s : Sa} (h : Inst env y s) (i : Name) : Inst env (y.soft i) (s.soft i) := by
 unfold Sy.soft Sa.soft
 cases hl : lookN i y.vc with
 | none => rw [(h.vc.look).2 hl]; exact h
 | some c =>
  obtain ⟨u, q⟩ := c
  obtain ⟨a, h1, h2⟩ := (h.vc.look).1 hl
  rw [h2]
  exact ⟨h.g, h.rd, h.n, h.ts.map (fun _ _ h => InstV.soft h1 i h), h.sv.map (fun _ _ h => InstV.soft h1 i h), h.bx.map (fun _ _ h => InstV.soft h1 i h), h.lp, h.ow, h.vc.filter (q := fun j => j != i)⟩
theorem Sy.soft_lp {i : Name} {y : Sy} : (y.soft i).lp = y.lp := by unfold Sy.soft; split <;> rfl
theorem Sy.soft_g {i : Name} {y : Sy} : (y.soft i).g = y.g := by unfold Sy.soft; split <;> rfl
def softAll (ids : List Name) (y : Sy) : Sy := ids.foldl (fun y i => y.soft i) y
theorem softAll_lp {ids : List Name} {y : Sy} : (softAll ids y).lp = y.lp := by
 unfold softAll
 induction ids generalizing y with
 | nil => rfl
 | cons i ids ih => simp only [List.foldl_cons]; rw [ih]; exact Sy.soft_lp
end Go.Tx
