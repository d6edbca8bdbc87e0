import Derived.Test.YtleeccmcgophfaaGreatPH
import Derived.Test.YtleeccmcgophfaaGreatPD
import Derived.Test.YtleeccmcgophfaaGreatPE
import Derived.RangeFuncNested
import Derived.Test.YtleeccmcgophfaaGreatPF
set_option linter.all false
namespace Go.Tx
set_option linter.unusedVariables false
set_option linter.unusedSimpArgs false
open Go Go.Ab
def parV (n0 : Nat) (args : List E) (x : E) : E → Bool
 | .var i => Nat.ble n0 i && (match args[i - n0]? with | some y => x.same y | none => false)
 | _ => false
mutual
def fitV (n0 : Nat) (args : List E) (z : SV) (zJ : SV) : Bool :=
 (z.same zJ && z.lt n0) || (match z with
 | .e t x => (match zJ with | .e u y => decide (t = u) && parV n0 args x y | _ => false)
 | .own i a t x => (match zJ with | .own j b u y => decide (i = j) && Nat.beq a b && decide (t = u) && parV n0 args x y | _ => false)
 | .mpc k t x => (match zJ with | .mpc q u y => decide (k = q) && decide (t = u) && parV n0 args x y | _ => false)
 | .ref t x a => (match zJ with | .ref u y b => decide (t = u) && Nat.beq a b && parV n0 args x y | _ => false)
 | .agg cs => (match zJ with | .agg ds => fitL n0 args cs ds | _ => false)
 | .mix t x os zs => (match zJ with | .mix u y ps ws => decide (t = u) && decide (os = ps) && (parV n0 args x y || (x.same y && x.lt n0)) && fitL n0 args zs ws | _ => false)
 | .fn f cs => (match zJ with | .fn g ds => Nat.beq f g && fitL n0 args cs ds | _ => false)
 | _ => false)
def fitL (n0 : Nat) (args : List E) (zs : List SV) (zJs : List SV) : Bool := match zs with
 | [] => (match zJs with | [] => true | _ => false)
 | x :: xs => (match zJs with | y :: ys => fitV n0 args x y && fitL n0 args xs ys | _ => false)
end
theorem evs_get {env : List Val} : ∀ {es : List E} {vs : List Val}, evs env es = some vs → ∀ {i : Nat} {x : E}, es[i]? = some x → ∃ v, vs[i]? = some v ∧ x.val env = some v
 | [], vs, h, i, x, hx => by simp at hx
 | e :: es, vs, h, i, x, hx => by
  simp only [evs] at h
  split at h
  ·rename_i v vs' h1 h2
   cases h
   cases i with
   | zero => simp at hx; subst hx; exact ⟨v, by simp, h1⟩
   | succ i => simpa using evs_get h2 (by simpa using hx)
  ·cases h
theorem parV_ok {env0 l : List Val} {args : List E} {vs : List Val} (hv : evs (env0 ++ l) args = some vs) {x y : E} {v : Val} (h : parV env0.length args x y = true) (hx : x.val (env0 ++ l) = some v) : y.val (env0 ++ vs) = some v := by
 unfold parV at h
 split at h
 ·rename_i i
  simp only [Bool.and_eq_true] at h
  obtain ⟨h1, h2⟩ := h
  have hle := Nat.le_of_ble_eq_true h1
  split at h2
  ·rename_i y' hy
   have := E.same_eq h2
   subst this
   obtain ⟨w, g1, g2⟩ := evs_get hv hy
   rw [hx] at g2; cases g2
   simp only [E.val]
   rw [List.getElem?_append_right hle]; exact g1
  ·cases h2
 ·cases h
mutual
theorem fitV_ok {env0 l : List Val} {args : List E} {vs : List Val} (hv : evs (env0 ++ l) args = some vs) : ∀ (z : SV) {zJ : SV} {v : V}, fitV env0.length args z zJ = true → InstV (env0 ++ l) z v → InstV (env0 ++ vs) zJ v := by
 intro z zJ v h hz
 rw [fitV.eq_def, Bool.or_eq_true] at h
 rcases h with h | h
 ·simp only [Bool.and_eq_true] at h
  have := SV.same_eq _ h.1
  subst this
  exact (InstV.lt l h.2 hz).app vs
 ·cases z with
  | e t x =>
   cases zJ with
   | e u y =>
    simp only [Bool.and_eq_true, decide_eq_true_eq] at h
    obtain ⟨rfl, h⟩ := h
    simp only [InstV] at hz ⊢
    obtain ⟨a, h1, h2⟩ := hz
    exact ⟨a, parV_ok hv h h1, h2⟩
   | _ => simp at h
  | own i a t x =>
   cases zJ with
   | own j b u y =>
    simp only [Bool.and_eq_true, decide_eq_true_eq] at h
    obtain ⟨⟨⟨rfl, hab⟩, rfl⟩, h⟩ := h
    have := Nat.eq_of_beq_eq_true hab
    subst this
    simp only [InstV] at hz ⊢
    obtain ⟨c, h1, h2⟩ := hz
    exact ⟨c, parV_ok hv h h1, h2⟩
   | _ => simp at h
  | mpc k t x =>
   cases zJ with
   | mpc q u y =>
    simp only [Bool.and_eq_true, decide_eq_true_eq] at h
    obtain ⟨⟨rfl, rfl⟩, h⟩ := h
    simp only [InstV] at hz ⊢
    obtain ⟨c, kvs, h1, h2⟩ := hz
    exact ⟨c, kvs, parV_ok hv h h1, h2⟩
   | _ => simp at h
  | ref t x a =>
   cases zJ with
   | ref u y b =>
    simp only [Bool.and_eq_true, decide_eq_true_eq] at h
    obtain ⟨⟨rfl, hab⟩, h⟩ := h
    have := Nat.eq_of_beq_eq_true hab
    subst this
    simp only [InstV] at hz ⊢
    obtain ⟨c, cs, h1, h2⟩ := hz
    exact ⟨c, cs, parV_ok hv h h1, h2⟩
   | _ => simp at h
  | agg cs =>
   cases zJ with
   | agg ds =>
    simp only [InstV] at hz ⊢
    obtain ⟨c, h1, h2⟩ := hz
    exact ⟨c, h1, fitL_ok hv cs h h2⟩
   | _ => simp at h
  | mix t x os zs =>
   cases zJ with
   | mix u y ps ws =>
    simp only [Bool.and_eq_true, Bool.or_eq_true, decide_eq_true_eq] at h
    obtain ⟨⟨⟨rfl, rfl⟩, hb⟩, hf⟩ := h
    simp only [InstV] at hz ⊢
    obtain ⟨a, c, h1, h2, h3, h4, h5⟩ := hz
    refine ⟨a, c, ?_, h2, h3, fitP_ok hv zs hf h4, h5⟩
    rcases hb with hb | hb
    ·exact parV_ok hv hb h1
    ·have := E.same_eq hb.1
     subst this
     rw [E.val_lt l hb.2] at h1
     exact E.val_app vs h1
   | _ => simp at h
  | fn f cs =>
   cases zJ with
   | fn g ds =>
    simp only [Bool.and_eq_true] at h
    have := Nat.eq_of_beq_eq_true h.1
    subst this
    simp only [InstV] at hz ⊢
    obtain ⟨c, h1, h2⟩ := hz
    exact ⟨c, h1, fitL_ok hv cs h.2 h2⟩
   | _ => simp at h
  | _ => simp at h
theorem fitL_ok {env0 l : List Val} {args : List E} {vs : List Val} (hv : evs (env0 ++ l) args = some vs) : ∀ (zs : List SV) {zJs : List SV} {us : List V}, fitL env0.length args zs zJs = true → InstL (env0 ++ l) zs us → InstL (env0 ++ vs) zJs us := by
 intro zs zJs us h hz
 cases zs with
 | nil =>
  cases zJs with
  | nil => exact hz
  | cons y ys => simp [fitL] at h
 | cons x xs =>
  cases zJs with
  | nil => simp [fitL] at h
  | cons y ys =>
   simp only [fitL, Bool.and_eq_true] at h
   simp only [InstL] at hz ⊢
   obtain ⟨v, vs', h1, h2, h3⟩ := hz
   exact ⟨v, vs', h1, fitV_ok hv x h.1 h2, fitL_ok hv xs h.2 h3⟩
theorem fitP_ok {env0 l : List Val} {args : List E} {vs : List Val} (hv : evs (env0 ++ l) args = some vs) : ∀ (zs : List SV) {ws : List SV} {os : List Nat} {c : List V}, fitL env0.length args zs ws = true → InstP (env0 ++ l) os zs c → InstP (env0 ++ vs) os ws c := by
 intro zs ws os c h hz
 cases zs with
 | nil =>
  cases ws with
  | nil => exact hz
  | cons y ys => simp [fitL] at h
 | cons x xs =>
  cases ws with
  | nil => simp [fitL] at h
  | cons y ys =>
   simp only [fitL, Bool.and_eq_true] at h
   simp only [InstP] at hz ⊢
   obtain ⟨i, os', h1, ⟨v, h2, h3⟩, h4⟩ := hz
   exact ⟨i, os', h1, ⟨v, h2, fitV_ok hv x h.1 h3⟩, fitP_ok hv xs h.2 h4⟩
end
def fitT (n0 : Nat) (args : List E) (ts : List (Nat × SV)) : List (Nat × SV) → Bool
 | [] => true
 | (t, z) :: l => fitV n0 args (lkS t ts) z && fitT n0 args ts l
def fitB (n0 : Nat) (args : List E) (bx : List (Name × SV)) : List (Name × SV) → Bool
 | [] => true
 | (n, z) :: l => (match lookN n bx with | some y => fitV n0 args y z | none => false) && fitB n0 args bx l
def sameK (n0 : Nat) : List (Nat × SV) → List (Nat × SV) → Bool
 | [], [] => true
 | (a, x) :: l, (b, y) :: m => Nat.beq a b && x.same y && x.lt n0 && sameK n0 l m
 | _, _ => false
def sameF (n0 : Nat) : List SFr → List SFr → Bool
 | [], [] => true
 | f :: fs, g :: gs => decide (f.rd = g.rd) && Nat.beq f.n g.n && sameK n0 f.ts g.ts && sameF n0 fs gs
 | _, _ => false
def jmpB : Option (Option Code) → Option (Option Code) → Bool
 | none, none => true
 | some none, some none => true
 | some (some (.exit i)), some (some (.exit j)) => Nat.beq i j
 | some (some .ret), some (some .ret) => true
 | _, _ => false
def lpB : List (Name × Lp) → List (Name × Lp) → Bool
 | [], [] => true
 | (n, p) :: l, (m, q) :: k => decide (n = m) && jmpB p.pending q.pending && lpB l k
 | _, _ => false
def fitC (n0 : Nat) (args : List E) (vc : List (Name × Ty × E)) : List (Name × Ty × E) → Bool
 | [] => true
 | (n, t, x) :: l => (match lookN n vc with | some (u, y) => decide (u = t) && ((y.same x && y.lt n0) || parV n0 args y x) | none => false) && fitC n0 args vc l
def fitsY (n0 : Nat) (args : List E) (y yJ : Sy) : Bool :=
 decide (y.rd = yJ.rd) && Nat.beq y.n yJ.n && fitT n0 args y.ts yJ.ts && sameF n0 y.sv yJ.sv && fitB n0 args y.bx yJ.bx && lpB y.lp yJ.lp && yJ.ow.all (fun i => y.ow.contains i) && fitC n0 args y.vc yJ.vc && yJ.vc.all (fun c => yJ.ow.contains c.1)
theorem jmpB_eq {a b : Option (Option Code)} (h : jmpB a b = true) : a = b := by
 unfold jmpB at h
 split at h <;> first | rfl | (rw [Nat.eq_of_beq_eq_true h]) | cases h
def lpS (l : List (Name × Lp)) : List (Name × (Nat × Array Tmp × Code × Code)) := l.map fun x => (x.1, x.2.depth, x.2.ps, x.2.assign, x.2.body)
theorem lpB_eq : ∀ {l k : List (Name × Lp)}, lpB l k = true → lpS l = lpS k → l = k
 | [], [], _, _ => rfl
 | (n, p) :: l, (m, q) :: k, h, hs => by
  simp only [lpB, Bool.and_eq_true, decide_eq_true_eq] at h
  simp only [lpS, List.map_cons, List.cons.injEq, Prod.mk.injEq] at hs
  obtain ⟨⟨h1, h2⟩, h3⟩ := h
  obtain ⟨⟨_, s1, s2, s3, s4⟩, s5⟩ := hs
  have e : p = q := by
   obtain ⟨d, ps, a, b, pd⟩ := p
   obtain ⟨d', ps', a', b', pd'⟩ := q
   simp only at s1 s2 s3 s4 h2
   rw [s1, s2, s3, s4, jmpB_eq h2]
  rw [h1, e, lpB_eq h3 s5]
 | [], _ :: _, h, _ => by simp [lpB] at h
 | _ :: _, [], h, _ => by simp [lpB] at h
theorem sameK_ok {env0 l vs : List Val} : ∀ {xs ys : List (Nat × SV)} {us : List (Nat × V)}, sameK env0.length xs ys = true → InstK (env0 ++ l) xs us → InstK (env0 ++ vs) ys us
 | [], [], us, h, hz => hz
 | (a, x) :: xs, (b, y) :: ys, us, h, hz => by
  simp only [sameK, Bool.and_eq_true] at h
  obtain ⟨⟨⟨h1, h2⟩, h3⟩, h4⟩ := h
  have e1 := Nat.eq_of_beq_eq_true h1
  have e2 := SV.same_eq _ h2
  subst e1; subst e2
  simp only [InstK] at hz ⊢
  obtain ⟨v, vs', g1, g2, g3⟩ := hz
  exact ⟨v, vs', g1, (InstV.lt l h3 g2).app vs, sameK_ok h4 g3⟩
 | [], _ :: _, _, h, _ => by simp [sameK] at h
 | _ :: _, [], _, h, _ => by simp [sameK] at h
theorem sameF_ok {env0 l vs : List Val} : ∀ {xs ys : List SFr} {us : List Fr}, sameF env0.length xs ys = true → InstF (env0 ++ l) xs us → InstF (env0 ++ vs) ys us
 | [], [], us, h, hz => hz
 | f :: xs, g :: ys, us, h, hz => by
  simp only [sameF, Bool.and_eq_true, decide_eq_true_eq] at h
  obtain ⟨⟨⟨h1, h2⟩, h3⟩, h4⟩ := h
  have e2 := Nat.eq_of_beq_eq_true h2
  simp only [InstF] at hz ⊢
  obtain ⟨v, vs', g1, g2, g3, g4, g5⟩ := hz
  exact ⟨v, vs', g1, by rw [g2, h1], by rw [g3, e2], sameK_ok h3 g4, sameF_ok h4 g5⟩
 | [], _ :: _, _, h, _ => by simp [sameF] at h
 | _ :: _, [], _, h, _ => by simp [sameF] at h
theorem fitT_ok {env0 l : List Val} {args : List E} {vs : List Val} (hv : evs (env0 ++ l) args = some vs) {ts : List (Nat × SV)} {us : List (Nat × V)} (hi : InstK (env0 ++ l) ts us) : ∀ {js : List (Nat × SV)}, fitT env0.length args ts js = true →
  InstK (env0 ++ vs) js (js.map fun x => (x.1, lkT x.1 us))
 | [], _ => rfl
 | (t, z) :: js, h => by
  simp only [fitT, Bool.and_eq_true] at h
  exact ⟨_, _, rfl, fitV_ok hv _ h.1 hi.lk, fitT_ok hv hi h.2⟩
theorem fitB_ok {env0 l : List Val} {args : List E} {vs : List Val} (hv : evs (env0 ++ l) args = some vs) {bx : List (Name × SV)} {us : List (Name × V)} (hi : InstK (env0 ++ l) bx us) : ∀ {js : List (Name × SV)}, fitB env0.length args bx js = true →
  InstK (env0 ++ vs) js (js.map fun x => (x.1, (lookN x.1 us).getD .dead)) ∧ ∀ x ∈ js.map (fun x => (x.1, (lookN x.1 us).getD V.dead)), lookN x.1 us = some x.2
 | [], _ => ⟨rfl, by simp⟩
 | (n, z) :: js, h => by
  simp only [fitB, Bool.and_eq_true] at h
  obtain ⟨h1, h2⟩ := h
  split at h1
  ·rename_i y hy
   obtain ⟨v, e1, e2⟩ := (hi.look (n := n)).1 hy
   obtain ⟨r1, r2⟩ := fitB_ok hv hi h2
   refine ⟨⟨_, _, rfl, by rw [e1]; exact fitV_ok hv _ h1 e2, r1⟩, ?_⟩
   intro x hx
   rw [List.map_cons] at hx
   rcases List.mem_cons.1 hx with rfl | hx
   ·simp only [e1, Option.getD_some]
   ·exact r2 x hx
  ·cases h1
theorem fitC_ok {env0 l : List Val} {args : List E} {vs : List Val} (hv : evs (env0 ++ l) args = some vs) {vc : List (Name × Ty × E)} {us : List (Name × Nat × List D)} (hi : InstC (env0 ++ l) vc us) : ∀ {js : List (Name × Ty × E)}, fitC env0.length args vc js = true →
  InstC (env0 ++ vs) js (js.map fun x => (x.1, (lookN x.1 us).getD default)) ∧ ∀ x ∈ js.map (fun x => (x.1, (lookN x.1 us).getD default)), lookN x.1 us = some x.2
 | [], _ => ⟨rfl, by simp⟩
 | (n, t, x) :: js, h => by
  simp only [fitC, Bool.and_eq_true] at h
  obtain ⟨h1, h2⟩ := h
  split at h1
  ·rename_i u y hy
   simp only [Bool.and_eq_true, Bool.or_eq_true, decide_eq_true_eq] at h1
   obtain ⟨rfl, h1⟩ := h1
   obtain ⟨a, e1, e2⟩ := (hi.look (n := n)).1 hy
   obtain ⟨r1, r2⟩ := fitC_ok hv hi h2
   refine ⟨⟨a, _, ?_, ?_, r1⟩, ?_⟩
   ·simp only [List.map_cons, e2, Option.getD_some]
   ·rcases h1 with h1 | h1
    ·have := E.same_eq h1.1
     subst this
     rw [E.val_lt l h1.2] at e1
     exact E.val_app vs e1
    ·exact parV_ok hv h1 e1
   ·intro z hz
    rw [List.map_cons] at hz
    rcases List.mem_cons.1 hz with rfl | hz
    ·simp only [e2, Option.getD_some]
    ·exact r2 z hz
  ·cases h1
theorem fitsY_ok {env0 l : List Val} {args : List E} {vs : List Val} {y yJ : Sy} {s : Sa} (hf : fitsY env0.length args y yJ = true) (hl : lpS y.lp = lpS yJ.lp) (hI : Inst (env0 ++ l) y s) (hv : evs (env0 ++ l) args = some vs)
  (hg : (env0 ++ vs).map (·.1) = yJ.g) : ∃ s', Wk s s' ∧ Inst (env0 ++ vs) yJ s' := by
 simp only [fitsY, Bool.and_eq_true, decide_eq_true_eq] at hf
 obtain ⟨⟨⟨⟨⟨⟨⟨⟨h1, h2⟩, h3⟩, h4⟩, h5⟩, h6⟩, h7⟩, h8⟩, h9⟩ := hf
 have e2 := Nat.eq_of_beq_eq_true h2
 have e6 := lpB_eq h6 hl
 obtain ⟨b1, b2⟩ := fitB_ok hv hI.bx h5
 obtain ⟨c1, c2⟩ := fitC_ok hv hI.vc h8
 refine ⟨{ s with ts := yJ.ts.map fun x => (x.1, lkT x.1 s.ts), bx := yJ.bx.map fun x => (x.1, (lookN x.1 s.bx).getD .dead), ow := yJ.ow, vc := yJ.vc.map fun x => (x.1, (lookN x.1 s.vc).getD default) }, ?_, ?_⟩
 ·refine Wk.lists rfl rfl rfl (fun x hx => ?_) rfl (fun x hx => b2 x hx) (fun i hi => ?_) (fun n c hn => ?_)
  ·obtain ⟨z, _, rfl⟩ := List.mem_map.1 hx; rfl
  ·have := List.all_eq_true.1 h7 i hi
   rw [hI.ow]; exact List.contains_iff_mem.1 this
  ·have hm := lookN_mem hn
   refine ⟨c2 _ hm, fun _ => ?_⟩
   obtain ⟨z, hz, e⟩ := List.mem_map.1 hm
   have := List.all_eq_true.1 h9 z hz
   have e1 : z.1 = n := by simpa using congrArg Prod.fst e
   rw [e1] at this
   exact List.contains_iff_mem.1 this
 ·exact ⟨hg, by rw [← h1]; exact hI.rd, by rw [← e2]; exact hI.n, fitT_ok hv hI.ts h3, sameF_ok h4 hI.sv, b1, by rw [← e6]; exact hI.lp, rfl, c1⟩
theorem Wk_trans {s s' s'' : Sa} (h : Wk s s') (h' : Wk s' s'') : Wk s s'' := fun Mo m as w hR => by
 obtain ⟨m1, h1, h2, h3⟩ := h Mo m as w hR
 obtain ⟨m2, h4, h5, h6⟩ := h' Mo m1 as w h1
 exact ⟨m2, h4, h2.trans h5, h6.trans h3⟩
theorem Wk_strip {s : Sa} (i : Name) : Wk s (s.strip i) := fun Mo m as w hR =>
 ⟨m, hR.strip i, (Step.refl m s w).strip i, rfl⟩
def prepOne (i : Name) (y : Sy) : Sy := match i with
 | 987654321 :: j => y.soft j
 | i => (y.soft i).strip i
theorem prepOne_ok {env : List Val} {y : Sy} {s : Sa} (h : Inst env y s) (i : Name) : ∃ s', Wk s s' ∧ Inst env (prepOne i y) s' := by
 unfold prepOne
 split
 ·exact ⟨_, Wk_soft s _, h.soft _⟩
 ·exact ⟨_, Wk_trans (Wk_soft s i) (Wk_strip i), (h.soft i).strip i⟩
theorem prepOne_lp {i : Name} {y : Sy} : (prepOne i y).lp = y.lp := by
 unfold prepOne
 split
 ·exact Sy.soft_lp
 ·exact Sy.soft_lp
theorem prepOne_g {i : Name} {y : Sy} : (prepOne i y).g = y.g := by
 unfold prepOne
 split
 ·exact Sy.soft_g
 ·exact Sy.soft_g
def stripAll (ids : List Name) (y : Sy) : Sy := ids.foldl (fun y i => prepOne i y) y
theorem stripAll_ok {env : List Val} : ∀ {ids : List Name} {y : Sy} {s : Sa}, Inst env y s → ∃ s', Wk s s' ∧ Inst env (stripAll ids y) s'
 | [], y, s, h => ⟨s, Wk.refl, h⟩
 | i :: ids, y, s, h => by
  obtain ⟨s0, w0, h0⟩ := prepOne_ok h i
  obtain ⟨s', h1, h2⟩ := stripAll_ok (ids := ids) h0
  exact ⟨s', Wk_trans w0 h1, h2⟩
theorem softAll_ok {env : List Val} : ∀ {ids : List Name} {y : Sy} {s : Sa}, Inst env y s → ∃ s', Wk s s' ∧ Inst env (softAll ids y) s'
 | [], y, s, h => ⟨s, Wk.refl, h⟩
 | i :: ids, y, s, h => by
  obtain ⟨s', h1, h2⟩ := softAll_ok (ids := ids) (h.soft i)
  exact ⟨s', Wk_trans (Wk_soft s i) h1, h2⟩
theorem stripAll_lp {ids : List Name} {y : Sy} : (stripAll ids y).lp = y.lp := by
 unfold stripAll
 induction ids generalizing y with
 | nil => rfl
 | cons i ids ih =>
  simp only [List.foldl_cons]
  rw [ih]
  exact prepOne_lp
theorem toD_one {c : V} {d : D} (h : c.toD = some d) : c.isMpc = false ∧ ((∃ vs ds, c = .agg vs ∧ toDs V.toD1 vs = some ds ∧ d = .agg ds) ∨ c = .d d ∨ (c.cells = [c] ∧ d.cells = [d])) := by
 cases c <;> simp only [V.toD, V.toD1, reduceCtorEq, Option.some.injEq, Option.map_eq_some_iff] at h
 case d x => subst h; exact ⟨rfl, .inr (.inl rfl)⟩
 case nil => subst h; exact ⟨rfl, .inr (.inr ⟨rfl, rfl⟩)⟩
 case own i sz xs => subst h; exact ⟨rfl, .inr (.inr ⟨rfl, rfl⟩)⟩
 case agg vs => obtain ⟨ds, h1, rfl⟩ := h; exact ⟨rfl, .inl ⟨vs, ds, rfl, h1, rfl⟩⟩
theorem toD_cells {c : V} {d : D} (h : c.toD = some d) : (V.d d).cells.length = c.cells.length ∧ ∀ {w : World} {M : Cells} {m : Mp} {x : Value} (i : Nat) (h1 : i < c.cells.length) (h2 : i < (V.d d).cells.length), RepV w M m c.cells[i] x → RepV w M m (V.d d).cells[i] x := by
 rcases (toD_one h).2 with ⟨vs, ds, rfl, h1, rfl⟩ | rfl | ⟨e1, e2⟩
 ·obtain ⟨k1, k2⟩ := toDs_spec h1
  refine ⟨by simp [V.cells, k1], fun i h1 h2 hr => ?_⟩
  simp only [V.cells, List.length_map] at h1 h2
  simp only [V.cells, List.getElem_map] at hr ⊢
  exact .d (hr.toD1 (k2 i h1 (by omega)))
 ·exact ⟨rfl, fun i h1 h2 hr => hr⟩
 ·have e3 : (V.d d).cells = [V.d d] := by rw [cells_d, e2]; rfl
  refine ⟨by rw [e1, e3]; rfl, fun i h1 h2 hr => ?_⟩
  have hi : i = 0 := by rw [e1] at h1; simpa using h1
  subst hi
  have e4 : c.cells[0] = c := by simp only [e1, List.getElem_cons_zero]
  have e5 : (V.d d).cells[0] = V.d d := by simp only [e3, List.getElem_cons_zero]
  rw [e4] at hr; rw [e5]
  exact .d (hr.toD h)
theorem Wk_conv {s s' : Sa} (hrd : s'.rd = s.rd) (hn : s'.n = s.n) (hlp : s'.lp = s.lp) (hts : ∀ t, lkT t s'.ts = lkT t s.ts ∨ ∃ d, (lkT t s.ts).toD = some d ∧ lkT t s'.ts = .d d)
  (hsv : s'.sv = s.sv) (hbx : ∀ nm, lookN nm s'.bx = lookN nm s.bx ∨ ∃ c d, lookN nm s.bx = some c ∧ c.toD = some d ∧ lookN nm s'.bx = some (.d d)) (how : s'.ow = s.ow) (hvc : s'.vc = s.vc) : Wk s s' := by
 intro Mo m as w hR
 have hin : ∀ nm c, lookN nm s'.bx = some c → ∃ c', lookN nm s.bx = some c' := fun nm c h => by
  rcases hbx nm with e | ⟨c', d, e, _⟩
  ·exact ⟨c, by rw [← e]; exact h⟩
  ·exact ⟨c', e⟩
 have hmut : ∀ b o, Mut s'.bx s'.ow m b o → Mut s.bx s.ow m b o := by
  rintro b o (⟨nm, c, h1, h2⟩ | ⟨i, h1, h2⟩)
  ·obtain ⟨c', h⟩ := hin nm c h1; exact .inl ⟨nm, c', h, h2⟩
  ·exact .inr ⟨i, by rw [← how]; exact h1, h2⟩
 have hst : Stab w (Tot Mo s.bx s.ow m) w (Tot Mo s'.bx s'.ow m) := fun b o c hc hm => ⟨hc, fun ht => hm (ht.imp id (hmut b o))⟩
 refine ⟨m, ⟨by rw [hsv]; exact hR.len, ?_, ?_, ?_, ?_, ?_, ?_, ?_, ?_, ?_, hR.mo, hR.mks, ?_, fun n c hn => by rw [hvc] at hn; exact ⟨by rw [how]; exact (hR.vec n c hn).1, (hR.vec n c hn).2.mono hst rfl rfl (fun _ _ _ _ _ hv => hv) (fun b c T hc => ⟨c, hc, rfl⟩)⟩⟩, ⟨.of_below (Go.RowKit.Below.refl _ _), fun b o _ h => hmut b o h, fun b _ h => by rw [hlp] at h; exact h, hrd, by rw [hsv], fun _ _ => rfl⟩, by simp only [rdOf, hrd]⟩
 ·intro i hi hi'
  cases i with
  | zero =>
   have h0 := hR.fr 0 (by simp) hi'
   refine ⟨by simp only [List.getElem_cons_zero, hn]; exact h0.size, fun t => ?_, h0.def_⟩
   simp only [List.getElem_cons_zero]
   rcases hts t with h | ⟨d, h1, h2⟩
   ·rw [h]; exact hst.mono_rep (h0.ts t)
   ·rw [h2]; exact .d ((hst.mono_rep (h0.ts t)).toD h1)
  | succ i =>
   have h0 := hR.fr (i + 1) (by simpa [hsv] using hi) hi'
   have e : (({ rd := s'.rd, n := s'.n, ts := s'.ts } : Fr) :: s'.sv)[i + 1] = (({ rd := s.rd, n := s.n, ts := s.ts } : Fr) :: s.sv)[i + 1]'(by simpa [hsv] using hi) := by simp [hsv]
   rw [e]; exact h0.stab hst
 ·intro nm c h
  rcases hbx nm with e | ⟨c', d, e1, e2, e3⟩
  ·obtain ⟨cs, T, hb⟩ := hR.box nm c (by rw [← e]; exact h)
   exact ⟨cs, T, hb.heap, hb.size, hb.leafs, fun i hi => hst.mono_rep (hb.rep i hi)⟩
  ·rw [e3] at h; cases h
   obtain ⟨cs, T, hb⟩ := hR.box nm c' e1
   obtain ⟨k1, k2⟩ := toD_cells e2
   have hm := (toD_one e2).1
   refine ⟨cs, T, .mk (hb.heap.cells hm) rfl, by rw [hb.size, k1], fun i hi => hb.leafs i (by rw [← k1]; exact hi), fun i hi => ?_⟩
   exact k2 i (by rw [← k1]; exact hi) hi (hst.mono_rep (hb.rep i (by rw [← k1]; exact hi)))
 ·intro a b c d h1 h2 e
  obtain ⟨b', hb⟩ := hin _ _ h1
  obtain ⟨d', hd⟩ := hin _ _ h2
  exact hR.inj a b' c d' hb hd e
 ·exact fun i hi hn => hR.oww i (by rw [← how]; exact hi) hn
 ·exact fun i hi j hj h1 h2 e => hR.owx i (by rw [← how]; exact hi) j (by rw [← how]; exact hj) h1 h2 e
 ·intro i hi hn nm c h
  obtain ⟨c', hc⟩ := hin _ _ h
  exact hR.owb i (by rw [← how]; exact hi) hn nm c' hc
 ·intro l q hl
  rw [hlp] at hl; exact hR.lps l q hl
 ·intro l q hl
  rw [hlp] at hl; exact hR.dep l q hl
 ·intro l q l' q' h1 h2 e
  rw [hlp] at h1 h2; exact hR.lpi l q l' q' h1 h2 e
 ·exact fun i hi hn => hR.owm i (by rw [← how]; exact hi) hn
abbrev Cv := List (Nat × Ty) × List (Name × Ty)
def cvOne (w : Ty) (z : SV) : SV := match asE (some w) z with
 | some (u, x) => .e u x
 | none => z
def lkTy (t : Nat) : List (Nat × Ty) → Option Ty
 | [] => none
 | (a, w) :: l => if Nat.beq a t then some w else lkTy t l
def convK {κ : Type} (f : κ → Option Ty) (l : List (κ × SV)) : List (κ × SV) := l.map fun x => (x.1, match f x.1 with | some w => cvOne w x.2 | none => x.2)
def convY (cv : Cv) (y : Sy) : Sy := { y with ts := convK (fun t => lkTy t cv.1) y.ts, bx := convK (fun n => lookN n cv.2) y.bx }
theorem cvOne_ok {env : List Val} {w : Ty} {z : SV} {v : V} (h : InstV env z v) : ∃ v', InstV env (cvOne w z) v' ∧ (v' = v ∨ ∃ d, v.toD = some d ∧ v' = .d d) := by
 unfold cvOne
 split
 ·rename_i u x he
  obtain ⟨a, h1, h2⟩ := asE_ok he h
  exact ⟨.d (encD u a), by simp only [InstV]; exact ⟨a, h1, rfl⟩, .inr ⟨_, h2, rfl⟩⟩
 ·exact ⟨v, h, .inl rfl⟩
theorem convT_ok {env : List Val} {f : Nat → Option Ty} : ∀ {l : List (Nat × SV)} {us : List (Nat × V)}, InstK env l us → ∃ us', InstK env (convK f l) us' ∧ ∀ t, lkT t us' = lkT t us ∨ ∃ d, (lkT t us).toD = some d ∧ lkT t us' = .d d
 | [], us, h => by simp only [InstK] at h; subst h; exact ⟨[], rfl, fun t => .inl rfl⟩
 | (k, z) :: l, us, h => by
  simp only [InstK] at h
  obtain ⟨v, us', rfl, h2, h3⟩ := h
  obtain ⟨us2, e1, e2⟩ := convT_ok (f := f) h3
  have hv : ∃ v', InstV env (match f k with | some w => cvOne w z | none => z) v' ∧ (v' = v ∨ ∃ d, v.toD = some d ∧ v' = .d d) := by
   split
   ·exact cvOne_ok h2
   ·exact ⟨v, h2, .inl rfl⟩
  obtain ⟨v', g1, g2⟩ := hv
  refine ⟨(k, v') :: us2, ⟨_, _, rfl, g1, e1⟩, fun t => ?_⟩
  simp only [lkT]
  split
  ·rcases g2 with rfl | g2
   ·exact .inl rfl
   ·exact .inr g2
  ·exact e2 t
theorem convB_ok {env : List Val} {f : Name → Option Ty} : ∀ {l : List (Name × SV)} {us : List (Name × V)}, InstK env l us → ∃ us', InstK env (convK f l) us' ∧ ∀ nm, lookN nm us' = lookN nm us ∨ ∃ c d, lookN nm us = some c ∧ c.toD = some d ∧ lookN nm us' = some (.d d)
 | [], us, h => by simp only [InstK] at h; subst h; exact ⟨[], rfl, fun t => .inl rfl⟩
 | (k, z) :: l, us, h => by
  simp only [InstK] at h
  obtain ⟨v, us', rfl, h2, h3⟩ := h
  obtain ⟨us2, e1, e2⟩ := convB_ok (f := f) h3
  have hv : ∃ v', InstV env (match f k with | some w => cvOne w z | none => z) v' ∧ (v' = v ∨ ∃ d, v.toD = some d ∧ v' = .d d) := by
   split
   ·exact cvOne_ok h2
   ·exact ⟨v, h2, .inl rfl⟩
  obtain ⟨v', g1, g2⟩ := hv
  refine ⟨(k, v') :: us2, ⟨_, _, rfl, g1, e1⟩, fun t => ?_⟩
  simp only [lookN]
  split
  ·rcases g2 with rfl | ⟨d, g2, rfl⟩
   ·exact .inl rfl
   ·exact .inr ⟨v, d, rfl, g2, rfl⟩
  ·exact e2 t
theorem convY_ok {env : List Val} {cv : Cv} {y : Sy} {s : Sa} (h : Inst env y s) : ∃ s', Wk s s' ∧ Inst env (convY cv y) s' := by
 obtain ⟨ts', e1, e2⟩ := convT_ok (f := fun t => lkTy t cv.1) h.ts
 obtain ⟨bx', g1, g2⟩ := convB_ok (f := fun n => lookN n cv.2) h.bx
 exact ⟨{ s with ts := ts', bx := bx' }, Wk_conv rfl rfl rfl e2 rfl g2 rfl rfl, h.g, h.rd, h.n, e1, h.sv, g1, h.lp, h.ow, h.vc⟩
def prepY (ids : List Name) (cv : Cv) (y : Sy) : Sy := convY cv (stripAll ids y)
theorem prepY_ok {env : List Val} {ids : List Name} {cv : Cv} {y : Sy} {s : Sa} (h : Inst env y s) : ∃ s', Wk s s' ∧ Inst env (prepY ids cv y) s' := by
 obtain ⟨s1, w1, i1⟩ := stripAll_ok (ids := ids) h
 obtain ⟨s2, w2, i2⟩ := convY_ok (cv := cv) i1
 exact ⟨s2, Wk_trans w1 w2, i2⟩
theorem prepY_lp {ids : List Name} {cv : Cv} {y : Sy} : (prepY ids cv y).lp = y.lp := stripAll_lp
theorem TC_post {P : Program} {p : Name} {c : Code} {s : Sa} {Q : Ex → Sa → Prop} (h : TC P p c s (fun e s' => ∃ s'', Wk s' s'' ∧ Q e s'')) : TC P p c s Q := fun Mo m a sv w n hR =>
 wpIn_mono (h Mo m a sv w n hR) (fun e a' w' ⟨x, m', s', h1, ⟨s'', hw, hq⟩, h3, h4, h5, h6⟩ => by
  obtain ⟨m2, g1, g2, g3⟩ := hw Mo m' _ w' h3
  exact ⟨x, m2, s'', h1, hq, g1, h4.trans g2, g3.trans h5, h6⟩)
structure Leaf where
 e : Ex
 v : SV
 s : Sy
def sameEx : Ex → Ex → Bool
 | .norm, .norm => true
 | .ret, .ret => true
 | .exit i, .exit j => Nat.beq i j
 | _, _ => false
theorem sameEx_eq {a b : Ex} (h : sameEx a b = true) : a = b := by
 unfold sameEx at h
 split at h <;> first | rfl | (rw [Nat.eq_of_beq_eq_true h]) | cases h
def sigma (n0 : Nat) (ids : List Name) (cv : Cv) (yJ : Sy) (rep : Leaf) : List Leaf → List (List E) → Nat → Option (List T × List Leaf)
 | [], _, _ => some ([], [])
 | lf :: L, as, k => if sameEx lf.e rep.e && lpB lf.s.lp rep.s.lp then (match as with
   | a :: as => if fitsY n0 a (prepY ids cv lf.s) yJ then (sigma n0 ids cv yJ rep L as k).map fun r => (.jump 0 a :: r.1, r.2) else none
   | [] => none)
  else (sigma n0 ids cv yJ rep L as (k + 1)).map fun r => (.hole k :: r.1, lf :: r.2)
def glue (n0 : Nat) (ids : List Name) (cv : Cv) (yJ : Sy) (ps : List Ty) (rep : Leaf) (as : List (List E)) (t : T) (L : List Leaf) : Option (T × List Leaf) :=
 match sigma n0 ids cv yJ rep L as 1 with
 | some (ts, os) => some (.letj ps (.hole 0) ((t.lift 0).sub fun i => ts.getD i .fail), ⟨rep.e, .dead, yJ⟩ :: os)
 | none => none
def LQ (L : List Leaf) (Q : Leaf → List Val → Prop) : Nat → List Val → Prop := fun i env => ∃ lf, L[i]? = some lf ∧ Q lf env
abbrev noJ : Jt := fun _ _ => False
theorem sigma_ok {n0 : Nat} {ids : List Name} {cv : Cv} {yJ : Sy} {rep : Leaf} : ∀ {L : List Leaf} {as : List (List E)} {k : Nat} {ts : List T} {os : List Leaf}, sigma n0 ids cv yJ rep L as k = some (ts, os) → ∀ {i : Nat} {lf : Leaf}, L[i]? = some lf →
  (∃ a, ts[i]? = some (.jump 0 a) ∧ lf.e = rep.e ∧ fitsY n0 a (prepY ids cv lf.s) yJ = true) ∨ (∃ j, ts[i]? = some (.hole (k + j)) ∧ os[j]? = some lf)
 | [], as, k, ts, os, h, i, lf, hl => by simp at hl
 | x :: L, as, k, ts, os, h, i, lf, hl => by
  simp only [sigma] at h
  split at h
  ·rename_i hs
   simp only [Bool.and_eq_true] at hs
   split at h
   ·rename_i a as'
    split at h
    ·rename_i hf
     obtain ⟨⟨ts', os'⟩, h1, h2⟩ := Option.map_eq_some_iff.1 h
     cases h2
     cases i with
     | zero => simp at hl; subst hl; exact .inl ⟨a, by simp, sameEx_eq hs.1, hf⟩
     | succ i => simpa using sigma_ok h1 (by simpa using hl)
    ·cases h
   ·cases h
  ·obtain ⟨⟨ts', os'⟩, h1, h2⟩ := Option.map_eq_some_iff.1 h
   cases h2
   cases i with
   | zero => simp at hl; subst hl; exact .inr ⟨0, by simp, by simp⟩
   | succ i =>
    rcases sigma_ok h1 (i := i) (lf := lf) (by simpa using hl) with ⟨a, g1, g2, g3⟩ | ⟨j, g1, g2⟩
    ·exact .inl ⟨a, by simpa using g1, g2, g3⟩
    ·exact .inr ⟨j + 1, by simpa [Nat.add_assoc, Nat.add_comm 1 j] using g1, by simpa using g2⟩
theorem sigma_mem {n0 : Nat} {ids : List Name} {cv : Cv} {yJ : Sy} {rep : Leaf} : ∀ {L : List Leaf} {as : List (List E)} {k : Nat} {ts : List T} {os : List Leaf}, sigma n0 ids cv yJ rep L as k = some (ts, os) → ∀ lf ∈ os, lf ∈ L
 | [], as, k, ts, os, h => by cases h; simp
 | x :: L, as, k, ts, os, h => by
  simp only [sigma] at h
  split at h
  ·split at h
   ·split at h
    ·obtain ⟨⟨ts', os'⟩, h1, h2⟩ := Option.map_eq_some_iff.1 h
     cases h2
     exact fun lf hl => List.mem_cons_of_mem _ (sigma_mem h1 lf hl)
    ·cases h
   ·cases h
  ·obtain ⟨⟨ts', os'⟩, h1, h2⟩ := Option.map_eq_some_iff.1 h
   cases h2
   intro lf hl
   rcases List.mem_cons.1 hl with rfl | hl
   ·exact List.mem_cons_self
   ·exact List.mem_cons_of_mem _ (sigma_mem h1 lf hl)
theorem glue_ok {CS : Calls'} (hCS : CallsWf CS) {n0 : Nat} {ids : List Name} {cv : Cv} {yJ : Sy} {ps : List Ty} {rep : Leaf} {as : List (List E)} {t t' : T} {L L' : List Leaf} {env : List Val} {Q : Leaf → List Val → Prop} (h : glue n0 ids cv yJ ps rep as t L = some (t', L')) (hn : env.length = n0) (hw : EnvWf env)
  (hgJ : yJ.g = env.map (·.1) ++ ps) (hlp : ∀ lf ∈ L, lpS lf.s.lp = lpS yJ.lp) {R : Ex → Sa → Prop} (hs : t'.sat CS noJ (LQ L' fun lf e => ∀ s', Inst e lf.s s' → R lf.e s') env) :
  t.sat CS noJ (LQ L fun lf e => ∀ s', Inst e lf.s s' → ∃ s'', Wk s' s'' ∧ R lf.e s'') env := by
 unfold glue at h
 split at h
 ·rename_i ts os hsg
  cases h
  simp only [T.sat] at hs
  rw [T.sat_sub, T.sat_lift, cut_zero] at hs
  have hs2 := T.sat_ext hCS hw hs
  refine T.sat_mono (fun _ _ h => h.2) ?_ hs2
  rintro i e ⟨⟨l, rfl⟩, he, hq⟩
  cases hts : ts[i]? with
  | none => simp [List.getD_eq_getElem?_getD, hts, T.sat] at hq
  | some tt =>
   simp only [List.getD_eq_getElem?_getD, hts, Option.getD_some] at hq
   have hlen : ∀ {L : List Leaf} {as : List (List E)} {k : Nat} {ts : List T} {os : List Leaf}, sigma n0 ids cv yJ rep L as k = some (ts, os) → ts.length = L.length := by
    intro L
    induction L with
    | nil => intro as k ts os h; cases h; rfl
    | cons x L ih =>
     intro as k ts os h
     simp only [sigma] at h
     split at h
     ·split at h
      ·split at h
       ·obtain ⟨⟨ts', os'⟩, h1, h2⟩ := Option.map_eq_some_iff.1 h
        cases h2; simp [ih h1]
       ·cases h
      ·cases h
     ·obtain ⟨⟨ts', os'⟩, h1, h2⟩ := Option.map_eq_some_iff.1 h
      cases h2; simp [ih h1]
   have hi : i < L.length := by rw [← hlen hsg]; exact (List.getElem?_eq_some_iff.1 hts).1
   refine ⟨L[i], List.getElem?_eq_getElem hi, ?_⟩
   rcases sigma_ok hsg (List.getElem?_eq_getElem hi) with ⟨a, g1, g2, g3⟩ | ⟨j, g1, g2⟩
   ·rw [hts] at g1
    cases g1
    simp only [T.sat] at hq
    obtain ⟨vs, hv, hvs, lf, hlf, hR⟩ := hq
    simp only [List.getElem?_cons_zero, Option.some.injEq] at hlf
    subst hlf
    intro s' hI
    obtain ⟨s1, w1, i1⟩ := prepY_ok (ids := ids) (cv := cv) hI
    obtain ⟨s2, w2, i2⟩ := fitsY_ok (by rw [hn]; exact g3) (by rw [prepY_lp]; exact hlp _ (List.getElem_mem hi)) i1 hv (by rw [List.map_append, hvs, hgJ])
    refine ⟨s2, Wk_trans w1 w2, ?_⟩
    rw [g2]
    exact hR s2 i2
   ·rw [hts] at g1
    cases g1
    simp only [T.sat] at hq
    obtain ⟨lf, hlf, hR⟩ := hq
    rw [Nat.add_comm 1 j, List.getElem?_cons_succ, g2] at hlf
    cases hlf
    exact fun s' hI => ⟨s', Wk.refl, hR s' hI⟩
 ·cases h
end Go.Tx
namespace Go.Tx
set_option linter.unusedVariables false
set_option linter.unusedSimpArgs false
open Go Go.Ab
inductive Spec where
 | clo (ts te : TypeId)
 | ins (ts te ti : TypeId)
def SpecOK (P : Program) (f : FuncId) : Spec → Prop
 | .clo ts te => CloOK P f ts te
 | .ins ts te ti => InsOK P f ts te ti
def SpOK (P : Program) (sp : FuncId → Option Spec) : Prop := ∀ f x, sp f = some x → SpecOK P f x
theorem SpOK.none {P : Program} : SpOK P (fun _ => Option.none) := fun _ _ h => by cases h
def Sy.vturn (y : Sy) (n : Name) (w : Ty) : Sy := { ((y.strip n).more [.sl w]) with ow := n :: (y.strip n).ow, vc := (n, (w, .var y.g.length)) :: (y.strip n).vc }
def spCall (P : Program) (nm : Name) (sp : Spec) (args : List SV) (y : Sy) : Option (Bs × Sy × SV) :=
 match sp with
 | .clo ts te => match args with
  | [z] => match asS (tyD P ts) z with
   | some (w, ye) => if w.size = tsz P te ∧ tbytes P te ≠ 0 then some ([(.r2 (.app (tbytes P te)) (.zero (.sl w)) ye, .sl w)], y.vturn nm w, .vsl nm) else none
   | none => none
  | _ => none
 | .ins ts te ti => match args with
  | [.vsl n, iz, z] => match lookN n y.vc, asI iz, asS (tyD P ts) z with
   | some (w', l), some (q, i), some (w, ye) => if q = .i64 ∧ w = w' ∧ w.size = tsz P te ∧ tbytes P te ≠ 0 then some ([(.r3 (.ins (tbytes P te)) l i ye, .sl w)], y.vturn n w, .vsl n) else none
   | _, _, _ => none
  | _ => none
section
variable {P : Program} {S : Sems} {CS : Calls'} {env : List Val} {y : Sy} {s : Sa} {p : Name}
theorem toD_sliceOf {v : V} {xs : List D} (h : sliceOf v = some xs) : v.toD = some (.sl xs) := by
 unfold sliceOf at h
 split at h <;> first | (cases h; rfl) | cases h
theorem vturn_lp {n : Name} {w : Ty} : (y.vturn n w).lp = y.lp := rfl
theorem Inst.vturn (hI : Inst env y s) (n : Name) (w : Ty) (a : List w.den) (sz : Nat) (hw : w.size = sz) : Inst (env ++ [⟨.sl w, a⟩]) (y.vturn n w) (s.vturn n sz (a.map (encD w))) := by
 have h4 := (hI.strip n).snoc (⟨.sl w, a⟩ : Val)
 exact ⟨h4.g, h4.rd, h4.n, h4.ts, h4.sv, h4.bx, h4.lp, by have := h4.ow; simp only [Sy.more] at this; simp only [Sy.vturn, Sa.vturn, Sy.more, this], ⟨a, _, by rw [← hw]; rfl, by rw [← hI.len]; exact var_last rfl, h4.vc⟩⟩
theorem clo_make {g : FuncId} {ts te : TypeId} {z : SV} {v : V} {w : Ty} {ye : E} {Q : List Val → Prop} (hs : CloOK P g ts te) (has : asS (tyD P ts) z = some (w, ye)) (c1 : w.size = tsz P te) (c2 : tbytes P te ≠ 0) (hl : env.length = y.g.length) (hv : InstV env z v)
  (hb : okBs CS [(.r2 (.app (tbytes P te)) (.zero (.sl w)) ye, .sl w)] env Q) : ∃ ys : List w.den, toDs V.toD [v] = some [.sl (ys.map (encD w))] ∧ MakeOK P g [.sl (ys.map (encD w))] (tsz P te) (ys.map (encD w)) ∧ Q (env ++ [⟨.sl w, ys⟩]) := by
 obtain ⟨ys, f1, f2⟩ := asS_ok has hv
 obtain ⟨r, r1, r2, r3⟩ := ok_last rfl hb
 obtain ⟨a', b', rr, cc, x1, x2, x3, x4, x5⟩ := r1
 have e1 : (E.zero (.sl w)).val env = some ⟨.sl w, []⟩ := rfl
 rw [e1] at x1; cases x1
 rw [f1] at x2; cases x2
 simp only [rel2, dif_pos, if_pos c2, Option.some.injEq] at x3
 subst x3
 simp only at x4
 split at x4
 ·rename_i hle
  cases x4; cases x5
  simp only [List.length_nil, Nat.zero_add] at hle
  have hall : ∀ d ∈ ys.map (encD w), d.cells.length = tsz P te := fun d hd => by
   obtain ⟨q, _, rfl⟩ := List.mem_map.1 hd
   rw [encD_cells, enc_len]; exact c1
  have hlen : ys.length ≤ 9223372036854775807 := by
   have := Nat.le_mul_of_pos_right ys.length (Nat.pos_of_ne_zero c2)
   omega
  exact ⟨ys, by simp only [toDs, toD_sliceOf f2], CloOK.make (xs := ys.map (encD w)) hs hall (by rw [List.length_map]; exact hle) (by rw [List.length_map]; exact hlen), r2⟩
 ·cases x4
theorem spCall_ok {g : FuncId} {sp : Spec} {args : List SV} {nm : Name} {bs : Bs} {y1 : Sy} {z1 : SV} {vs : List V} {k : V → Sa → Prop} (hs : SpecOK P g sp) (h : spCall P nm sp args y = some (bs, y1, z1)) (hI : Inst env y s) (hargs : InstL env args vs)
  (hb : okBs CS bs env fun e => ∀ s' v, Inst e y1 s' → InstV e z1 v → k v s') : TCall P p g vs s k := by
 cases sp with
 | clo ts te =>
  simp only [spCall] at h
  split at h
  ·rename_i z
   split at h
   ·rename_i w ye has
    split at h
    ·rename_i hc
     obtain ⟨c1, c2⟩ := hc
     cases h
     simp only [InstL] at hargs
     obtain ⟨v, vs', rfl, h1, rfl⟩ := hargs
     obtain ⟨ys, f1, f2⟩ := asS_ok has h1
     obtain ⟨r, r1, r2, r3⟩ := ok_last hI.len hb
     obtain ⟨a', b', rr, cc, x1, x2, x3, x4, x5⟩ := r1
     have e1 : (E.zero (.sl w)).val env = some ⟨.sl w, []⟩ := rfl
     rw [e1] at x1; cases x1
     rw [f1] at x2; cases x2
     simp only [rel2, dif_pos, if_pos c2, Option.some.injEq] at x3
     subst x3
     simp only at x4
     split at x4
     ·rename_i hle
      cases x4; cases x5
      simp only [List.length_nil, Nat.zero_add] at hle
      have hall : ∀ d ∈ ys.map (encD w), d.cells.length = tsz P te := fun d hd => by
       obtain ⟨q, _, rfl⟩ := List.mem_map.1 hd
       rw [encD_cells, enc_len]; exact c1
      have hlen : ys.length ≤ 9223372036854775807 := by
       have := Nat.le_mul_of_pos_right ys.length (Nat.pos_of_ne_zero c2)
       omega
      have hm := CloOK.make (xs := ys.map (encD w)) hs hall (by rw [List.length_map]; exact hle) (by rw [List.length_map]; exact hlen)
      refine hm p [v] s nm k (by simp only [toDs, toD_sliceOf f2]) ?_
      have h5 := hI.vturn nm w ([] ++ ys) (tsz P te) c1
      exact r2 _ _ h5 rfl
     ·cases x4
    ·cases h
   ·cases h
  ·cases h
 | ins ts te ti =>
  simp only [spCall] at h
  split at h
  ·rename_i n iz z
   split at h
   ·rename_i w' l q i w ye hl hi has
    split at h
    ·rename_i hc
     obtain ⟨c0, c1, c2, c3⟩ := hc
     subst c0; subst c1
     cases h
     simp only [InstL] at hargs
     obtain ⟨v1, vs', rfl, h1, v2, vs'', rfl, h2, v3, vs3, rfl, h3, rfl⟩ := hargs
     simp only [InstV] at h1
     subst h1
     obtain ⟨al, e1, e2⟩ := (hI.vc.look).1 hl
     obtain ⟨ii, i1, rfl⟩ := asI_ok hi h2
     obtain ⟨ys, f1, f2⟩ := asS_ok has h3
     obtain ⟨r, r1, r2, r3⟩ := ok_last hI.len hb
     obtain ⟨a', b', d', rr, cc, x1, x2, x3, x4, x5, x6⟩ := r1
     rw [e1] at x1; cases x1
     rw [i1] at x2; cases x2
     rw [f1] at x3; cases x3
     simp only [rel3, dif_pos, if_pos c3, Option.some.injEq] at x4
     subst x4
     simp only at x5
     split at x5
     ·rename_i hle
      cases x5; cases x6
      obtain ⟨g1, g2, g3⟩ := hle
      have hall : ∀ d ∈ ys.map (encD w), d.cells.length = tsz P te := fun d hd => by
       obtain ⟨q, _, rfl⟩ := List.mem_map.1 hd
       rw [encD_cells, enc_len]; exact c2
      have hlen : al.length + ys.length ≤ 9223372036854775807 := by
       have := Nat.le_mul_of_pos_right (al.length + ys.length) (Nat.pos_of_ne_zero c3)
       omega
      refine TCall_ins hs (by rw [e2, c2]) g1 (by rw [List.length_map]; exact g2) (toD_sliceOf f2) hall (by rw [List.length_map, List.length_map]; exact g3) (by rw [List.length_map, List.length_map]; exact hlen) ?_
      have h5 := hI.vturn n w (al.take ii.toNat ++ ys ++ al.drop ii.toNat) (tsz P te) c2
      rw [List.map_append, List.map_append, List.map_take, List.map_drop] at h5
      exact r2 _ _ h5 rfl
     ·cases x5
    ·cases h
   ·cases h
  ·cases h
end
end Go.Tx
namespace Go.Tx
set_option linter.unusedVariables false
set_option linter.unusedSimpArgs false
open Go Go.Ab
mutual
def SV.nov (n : Name) : SV → Bool
 | .own j _ _ _ => !decide (j = n)
 | .vsl m => !decide (m = n)
 | .vpt m _ _ _ => !decide (m = n)
 | .fn _ c => SV.novL n c
 | .agg c => SV.novL n c
 | .mix _ _ _ c => SV.novL n c
 | .tup c => SV.novL n c
 | .gd _ x => SV.nov n x
 | _ => true
def SV.novL (n : Name) : List SV → Bool
 | [] => true
 | x :: l => SV.nov n x && SV.novL n l
end
def novK {κ : Type} (n : Name) (l : List (κ × SV)) : Bool := l.all fun x => x.2.nov n
def Sy.free (y : Sy) (n : Name) : Bool := novK n y.ts && y.sv.all (fun f => novK n f.ts) && novK n y.bx && !y.ow.contains n && y.vc.all fun x => !decide (x.1 = n)
section
variable {env : List Val}
mutual
theorem InstV.nov {n : Name} : ∀ {z : SV} {v : V}, z.nov n = true → InstV env z v → v.strip n = v
 | .e t x, v, h, hv => by simp only [InstV] at hv; obtain ⟨a, _, rfl⟩ := hv; rfl
 | .nil, v, h, hv => by simp only [InstV] at hv; subst hv; rfl
 | .own j sz t x, v, h, hv => by
  simp only [InstV] at hv
  obtain ⟨a, _, _, rfl⟩ := hv
  have : j ≠ n := by simpa [SV.nov] using h
  simp [V.strip, this]
 | .ptr m off, v, h, hv => by simp only [InstV] at hv; subst hv; rfl
 | .aptr m off k t i inn, v, h, hv => by simp only [InstV] at hv; obtain ⟨_, _, _, _, _, rfl⟩ := hv; rfl
 | .ref t x off, v, h, hv => by simp only [InstV] at hv; obtain ⟨_, _, _, rfl, _⟩ := hv; rfl
 | .fn f cap, v, h, hv => by
  simp only [InstV] at hv
  obtain ⟨c, rfl, hc⟩ := hv
  simp only [V.strip, InstL.nov (z := cap) (by simpa [SV.nov] using h) hc]
 | .yld l, v, h, hv => by simp only [InstV] at hv; subst hv; rfl
 | .mref m, v, h, hv => by simp only [InstV] at hv; subst hv; rfl
 | .mpc k t x, v, h, hv => by simp only [InstV] at hv; obtain ⟨_, _, _, rfl, _⟩ := hv; rfl
 | .agg cs, v, h, hv => by
  simp only [InstV] at hv
  obtain ⟨c, rfl, hc⟩ := hv
  simp only [V.strip, InstL.nov (z := cs) (by simpa [SV.nov] using h) hc]
 | .mix t x os zs, v, h, hv => by
  simp only [InstV] at hv
  obtain ⟨a, c, h1, rfl, h3, h4, h5⟩ := hv
  simp only [V.strip, V.agg.injEq]
  have hp := InstP.nov (z := zs) (by simpa [SV.nov] using h) h4
  rw [V.stripL_map]
  refine List.ext_getElem? fun j => ?_
  rw [List.getElem?_map]
  by_cases hj : j < t.size
  ·by_cases ho : j ∈ os
   ·cases hc : c[j]? with
    | none => rfl
    | some v => rw [Option.map_some, hp j ho v hc]
   ·rw [h5 j hj ho]
    cases (enc t a)[j]? <;> rfl
  ·rw [List.getElem?_eq_none (by omega)]; rfl
 | .tup cs, v, h, hv => by
  simp only [InstV] at hv
  obtain ⟨c, rfl, hc⟩ := hv
  simp only [V.strip, InstL.nov (z := cs) (by simpa [SV.nov] using h) hc]
 | .kd cs, v, h, hv => by simp only [InstV] at hv; subst hv; rfl
 | .gd gs x, v, h, hv => by
  simp only [InstV] at hv
  obtain ⟨b, _, _, h2, h3⟩ := hv
  cases b with
  | true => exact InstV.nov (z := x) (by simpa [SV.nov] using h) (h2 rfl)
  | false => rw [h3 rfl]; rfl
 | .vsl m, v, h, hv => by
  simp only [InstV] at hv; subst hv
  have : m ≠ n := by simpa [SV.nov] using h
  simp [V.strip, this]
 | .vpt m t i inn, v, h, hv => by
  simp only [InstV] at hv
  obtain ⟨_, _, _, _, rfl⟩ := hv
  have : m ≠ n := by simpa [SV.nov] using h
  simp [V.strip, this]
 | .dead, v, h, hv => by simp only [InstV] at hv; subst hv; rfl
theorem InstL.nov {n : Name} : ∀ {z : List SV} {v : List V}, SV.novL n z = true → InstL env z v → V.stripL n v = v
 | [], v, h, hv => by simp only [InstL] at hv; subst hv; rfl
 | x :: l, v, h, hv => by
  simp only [InstL] at hv
  obtain ⟨u, us, rfl, h1, h2⟩ := hv
  simp only [SV.novL, Bool.and_eq_true] at h
  simp only [V.stripL, InstV.nov h.1 h1, InstL.nov h.2 h2]
theorem InstP.nov {n : Name} : ∀ {z : List SV} {os : List Nat} {c : List V}, SV.novL n z = true → InstP env os z c → ∀ j ∈ os, ∀ v, c[j]? = some v → v.strip n = v
 | [], os, c, h, hv => by simp only [InstP] at hv; subst hv; intro j hj; cases hj
 | x :: l, os, c, h, hv => by
  simp only [InstP] at hv
  obtain ⟨i, os', rfl, ⟨u, h1, h2⟩, h3⟩ := hv
  simp only [SV.novL, Bool.and_eq_true] at h
  intro j hj v hc
  rcases List.mem_cons.1 hj with rfl | hj
  ·rw [h1] at hc; cases hc; exact InstV.nov h.1 h2
  ·exact InstP.nov h.2 h3 j hj v hc
end
theorem novT {n : Name} : ∀ {l : List (Nat × SV)} {us : List (Nat × V)}, novK n l = true → InstK env l us → mapT (V.strip n) us = us
 | [], us, h, hv => by simp only [InstK] at hv; subst hv; rfl
 | (t, z) :: l, us, h, hv => by
  simp only [InstK] at hv
  obtain ⟨v, vs, rfl, h1, h2⟩ := hv
  simp only [novK, List.all_cons, Bool.and_eq_true] at h
  have := novT (l := l) h.2 h2
  simp only [mapT, List.map_cons, InstV.nov h.1 h1]
  exact congrArg _ this
theorem novB {n : Name} : ∀ {l : List (Name × SV)} {us : List (Name × V)}, novK n l = true → InstK env l us → us.map (fun x => (x.1, x.2.strip n)) = us
 | [], us, h, hv => by simp only [InstK] at hv; subst hv; rfl
 | (t, z) :: l, us, h, hv => by
  simp only [InstK] at hv
  obtain ⟨v, vs, rfl, h1, h2⟩ := hv
  simp only [novK, List.all_cons, Bool.and_eq_true] at h
  have := novB (l := l) h.2 h2
  simp only [List.map_cons, InstV.nov h.1 h1, this]
theorem novF {n : Name} : ∀ {l : List SFr} {us : List Fr}, l.all (fun f => novK n f.ts) = true → InstF env l us → us.map (fun f => { f with ts := mapT (V.strip n) f.ts }) = us
 | [], us, h, hv => by simp only [InstF] at hv; subst hv; rfl
 | f :: l, us, h, hv => by
  simp only [InstF] at hv
  obtain ⟨g, l', rfl, h1, h2, h3, h4⟩ := hv
  simp only [List.all_cons, Bool.and_eq_true] at h
  simp only [List.map_cons, novT h.1 h3, novF h.2 h4]
theorem Inst.free {y : Sy} {s : Sa} {n : Name} (h : y.free n = true) (hI : Inst env y s) : s.strip n = s := by
 simp only [Sy.free, Bool.and_eq_true, Bool.not_eq_true'] at h
 obtain ⟨⟨⟨⟨h1, h2⟩, h3⟩, h4⟩, h5⟩ := h
 have e1 := novT h1 hI.ts
 have e2 := novF h2 hI.sv
 have e3 := novB h3 hI.bx
 have e4 : s.ow.filter (fun j => j != n) = s.ow := by
  refine List.filter_eq_self.2 fun j hj => ?_
  rw [hI.ow] at hj
  have : n ∉ y.ow := by simpa using h4
  simpa using fun e : j = n => this (e ▸ hj)
 have e5 : s.vc.filter (fun x => x.1 != n) = s.vc := by
  refine List.filter_eq_self.2 fun x hx => ?_
  have : ∀ {l : List (Name × Ty × E)} {us : List (Name × Nat × List D)}, l.all (fun x => !decide (x.1 = n)) = true → InstC env l us → ∀ x ∈ us, (x.1 != n) = true := by
   intro l
   induction l with
   | nil => intro us _ hv x hx; simp only [InstC] at hv; subst hv; cases hx
   | cons q l ih =>
    obtain ⟨a, b, c⟩ := q
    intro us hl hv x hx
    simp only [InstC] at hv
    obtain ⟨w, r, rfl, _, h7⟩ := hv
    simp only [List.all_cons, Bool.and_eq_true] at hl
    rcases List.mem_cons.1 hx with rfl | hx
    ·simpa using hl.1
    ·exact ih hl.2 h7 x hx
  exact this h5 hI.vc x hx
 unfold Sa.strip
 rw [e1, e2, e3, e4, e5]
end
end Go.Tx
namespace Go.Ab
set_option linter.unusedVariables false
open Go Go.RowKit
variable {P : Program} {w : World} {n : Nat} {Mo : Cells} {m : Mp} {s : Sa} {as : List Act} {p : Name}
theorem PureOK.of_bodyT {f : FuncId} {fn : Func} {c : Code} {ds rs : List D} (q : Name) (hf : P.funcs[f]? = some fn) (hb : fn.body = some c) (hle : ds.length ≤ fn.ntmps)
  (h : (∀ i (hi : i < ds.length), ds[i].wf) → TC P q c (s0 fn.ntmps ds) (Out P fn.results.toList rs)) : PureOK P f ds rs := by
 intro M w n vs hlt hs hr
 refine callsIn_of_wp_marks hf hb trivial ?_ rfl
 have h0 := rel_start (m := ⟨fun _ => 0, fun _ => (0, 0, 0), fun _ => 0, fun _ => (none, 0, 0)⟩) fn.ntmps hlt hs hr hle
 have h1 := h (fun i hi => (hr i hi).wf) M _ _ _ w n h0
 refine wpIn_mono h1 ?_
 rintro e a' w' ⟨ex, m', s', he, ⟨hex, hres⟩, hR', hst, _, hmk⟩
 have hB : ∀ d ∈ a'.defers, ∃ r, d = { target := .collected r, args := #[] } ∧ w.heap.size ≤ r := fun d hd => by
  rcases hmk d hd with h | h
  ·simp at h
  ·exact h
 have hfin : LeavesInM (Wd none) n P fn a'.tmps (fun e w' => ∃ c, e = .returned c ∧ Below w.heap.size w w' ∧ ∀ m, RepV w' M m (mkRes (rs.map .d)) c) a'.defers .returning w' := by
  refine leaves w.heap.size hres a'.defers a' w' rfl hR' hB (fun vs c w2 hk hR2 hv hb => ?_)
  have hst2 := hst.after hb
  refine ⟨c, rfl, ⟨hst2.keeps.os, hst2.keeps.tape, hst2.keeps.output, hst2.keeps.size, fun b hb' => hst2.keeps.blk b hb' (fun o ho => ?_) (fun hl => ?_)⟩, mkRes_toD (hv.mono (fun b o x hx hm => ⟨hx, fun ht => hm (.inl ht)⟩) (fun _ _ => rfl) (fun _ _ _ _ h => h) (fun _ _ => rfl)) hk⟩
  ·rcases ho with ⟨nm, c, hn, _⟩ | ⟨i, hi, _⟩
   ·simp [s0, lookN] at hn
   ·simp [s0] at hi
  ·obtain ⟨l, q, hl, _⟩ := hl
   simp [s0, lookN] at hl
 cases e with
 | normal => cases he; exact hfin
 | ret => cases he; exact hfin
 | exit i => cases he; exact hex.elim
 | goto l => cases he
 | panic c => cases he
 | outgrown => cases he
theorem TCall_enterT {f : FuncId} {fn : Func} {c : Code} {args : List V} {k : V → Sa → Prop} (q : Name) (hf : P.funcs[f]? = some fn) (hb : fn.body = some c) (hle : args.length ≤ fn.ntmps)
  (h : TC P q c (s.push fn.ntmps (argTs 0 args)) (Left k P fn.results.toList s)) : TCall P p f args s k := by
 intro Mo m as w n vs r hR hargs
 refine callsIn_round (callsIn_of_wp_marks hf hb trivial ?_ rfl)
 have h0 := hR.push fn.ntmps hargs hle
 have h1 := h Mo m _ as w n h0
 have hrd : rdOf m (s.push fn.ntmps (argTs 0 args)) = none := rfl
 rw [hrd] at h1
 refine wpIn_mono h1 ?_
 rintro e a' w' ⟨ex, m', s', he, ⟨hex, hsvl, hlpn, hres⟩, hR', hst, _, hmk⟩
 have hB : ∀ d ∈ a'.defers, ∃ r, d = { target := .collected r, args := #[] } ∧ w.heap.size ≤ r := fun d hd => by
  rcases hmk d hd with h | h
  ·simp at h
  ·exact h
 have hne : s'.sv ≠ [] := fun e => by rw [e] at hsvl; simp at hsvl
 have hfin : LeavesInM (Wd none) n P fn a'.tmps (CallPost Mo m s as w k) a'.defers .returning w' := by
  refine leaves w.heap.size hres a'.defers a' w' rfl hR' hB (fun vs c w2 hk hR2 hv hb => ?_)
  have hdep : ∀ l q, lookN l s'.lp = some q → q.depth + 1 < as.length := by
   intro l q hl
   obtain ⟨q0, h1, h2⟩ := lpD_look hlpn hl
   rw [← h2]; exact hR.dep l q0 h1
  have hpop := hR2.pop hne hdep
  obtain ⟨g, gs, hsv⟩ := List.exists_cons_of_ne_nil hne
  have hsvrd := hst.svrd
  rw [hsv] at hsvrd
  simp only [Sa.push, List.map_cons, List.cons.injEq] at hsvrd
  have hbx : s'.pop.bx = s'.bx ∧ s'.pop.ow = s'.ow ∧ s'.pop.lp = s'.lp ∧ s'.pop.rd = s.rd ∧ s'.pop.sv.map (·.rd) = s.sv.map (·.rd) := by
   simp only [Sa.pop, hsv]; exact ⟨trivial, trivial, trivial, hsvrd.1, hsvrd.2⟩
  have hst2 := hst.after hb
  have hlpm : ∀ l, some l ∈ rds s → m'.lp l = m.lp l := fun l hl => hst.lpm l (by
   simp only [rds, Sa.push, List.map_cons, List.mem_cons] at hl ⊢
   exact .inr hl)
  refine ⟨c, mkRes vs, m', s'.pop, rfl, hk, hpop, by rw [hbx.1, hbx.2.1]; exact hv, ⟨hst2.keeps, by rw [hbx.1, hbx.2.1]; exact hst2.mt, by rw [hbx.2.2.1]; exact hst2.lp, hbx.2.2.2.1, hbx.2.2.2.2, hlpm⟩, ?_⟩
  simp only [rdOf, hbx.2.2.2.1]
  cases hrs : s.rd with
  | none => rfl
  | some l => simp only [Option.map_some, hlpm l (by simp [rds, hrs])]
 cases e with
 | normal => cases he; exact hfin
 | ret => cases he; exact hfin
 | exit i => cases he; exact hex.elim
 | goto l => cases he
 | panic c => cases he
 | outgrown => cases he
def BeginT (P : Program) (p : Name) (l : Name) (q : Lp) (s : Sa) (k : V → Sa → Prop) (e : Ex) (s1 : Sa) : Prop :=
 match e with
 | .norm => match lookN l s1.lp with
  | some q1 => q1.pending = none ∧ q1.body = q.body ∧ TC P p q.body (setLp s1 l { q1 with pending := some none }) (EndK l s k)
  | none => False
 | _ => False
theorem TYld_enterT {l : Name} {q : Lp} {f : Fr} {args : List V} {k : V → Sa → Prop} (qn : Name) (hl : lookN l s.lp = some q) (hf : (frames s).reverse[q.depth]? = some f)
  (hps : ∀ t ∈ q.ps.toList, t < f.n) (hlen : args.length = q.ps.size)
  (h : TC P qn q.assign (s.round l f q.ps.toList args) (BeginT P qn l q s k)) : TYld P p l args s k := by
 intro Mo m as w n vs r hR hargs
 obtain ⟨rec, a, hx⟩ := hR.lps l q hl
 refine ⟨rec, hx.heap, by rw [hargs.1, hx.ps, hlen], ?_⟩
 refine roundIn_of_wpIn trivial ?_
 have hz : (rec.params.zip vs).foldl (fun tmps (x : Tmp × Value) => tmps.setIfInBounds x.1 x.2) rec.tmps = (q.ps.toList.zip vs.toList).foldl (fun tmps x => tmps.setIfInBounds x.1 x.2) rec.tmps := by
  rw [← Array.foldl_toList, Array.toList_zip, hx.ps]
 have h0 := hR.round hl hx hf hps hlen hargs
 have h1 := h Mo m _ as w n h0
 have hrd : rdOf m (s.round l f q.ps.toList args) = some (m.lp l) := rfl
 rw [hrd] at h1
 have hasg : rec.assign = q.assign := hx.assign
 have hbod : rec.body = q.body := hx.body
 rw [hasg, hbod]
 have e0 : ((rec.params.zip vs).foldl (fun tmps (t, a) => tmps.setIfInBounds t a) rec.tmps) = (q.ps.toList.zip vs.toList).foldl (fun tmps x => tmps.setIfInBounds x.1 x.2) rec.tmps := hz
 rw [e0]
 refine wpIn_mono h1 ?_
 rintro e a1 w1 ⟨ex, m1, s1, he, hk, hR1, hst1, hrd1, _⟩
 cases ex with
 | exit i => exact hk.elim
 | ret => exact hk.elim
 | norm =>
  have en : e = .normal := by cases e <;> simp [exOf] at he; rfl
  subst en
  simp only [BeginT] at hk
  split at hk
  ·rename_i q1 hq1
   obtain ⟨hp1, hb1, hk⟩ := hk
   have hs1rd : s1.rd = some l := hst1.rd
   have hm1 : m1.lp l = m.lp l := by
    have : rdOf m1 s1 = some (m.lp l) := hrd1
    simp only [rdOf, hs1rd, Option.map_some, Option.some.injEq] at this; exact this
   obtain ⟨rc1, b1, hx1⟩ := hR1.lps l q1 hq1
   have hstat := hx1.stat
   rw [hp1] at hstat
   refine ⟨_, by rw [← hm1]; exact run_beginRound hx1.heap hstat.1, ?_⟩
   have hR2 := hR1.setLoop (q' := { q1 with pending := some none }) (r' := { rc1 with state := .busy }) hq1 hx1.heap ⟨rfl, rfl, rfl, rfl⟩ ⟨rfl, rfl, rfl, rfl⟩ rfl
   have hlt1 : m1.lp l < w1.heap.size := (Array.getElem?_eq_some_iff.1 hx1.heap).1
   have hst2 := hst1.trans (Step.setLoop (q' := { q1 with pending := some none }) (r' := { rc1 with state := .busy }) hq1 hlt1)
   have h2 := hk Mo m1 a1 as _ n hR2
   have hrd2 : rdOf m1 (setLp s1 l { q1 with pending := some none }) = some (m.lp l) := hrd1
   rw [hrd2] at h2
   rw [← hm1]
   rw [← hm1] at h2
   refine wpIn_mono h2 ?_
   rintro e2 a2 w2 ⟨ex2, m2, s2, he2, hk2, hR3, hst3, hrd3, _⟩
   obtain ⟨hsvl, hlpn, hk2⟩ := hk2
   split at hk2
   ·rename_i q2 hq2
    obtain ⟨rc2, b2, hx2⟩ := hR3.lps l q2 hq2
    have hs2rd : s2.rd = some l := hst3.rd.trans hs1rd
    have hm2 : m2.lp l = m1.lp l := by
     rw [hrd2] at hrd3
     simp only [rdOf, hs2rd, Option.map_some, Option.some.injEq] at hrd3; rw [hrd3, hm1]
    have hlt2 : m2.lp l < w2.heap.size := (Array.getElem?_eq_some_iff.1 hx2.heap).1
    have hstt := hst2.trans hst3
    have fin : ∀ (j : Option Code) (q3 : Lp), jmp ex2 = (match j with | none => none | some c => some (some c)) → q3 = { q2 with pending := jmp ex2 } → goesOn ex2 = j.isNone →
      ∃ v w', (Instr.endRound (m1.lp l) j).run P w2 = .ok v w' ∧ CallPost Mo m s as w k (.returned v) w' := by
     intro j q3 hj hq3 hg
     refine ⟨_, _, by rw [← hm2]; exact run_endRound j hx2.heap, ?_⟩
     have hR4 := hR3.setLoop (q' := q3) (r' := { rc2 with state := if j.isNone then .ready else .done, pending := j }) hq2 hx2.heap (by rw [hq3]; exact ⟨rfl, rfl, rfl, rfl⟩) ⟨rfl, rfl, rfl, rfl⟩ (by
      rw [hq3]; simp only [hj]
      cases j with
      | none => exact ⟨rfl, rfl⟩
      | some c => exact ⟨rfl, rfl⟩)
     have hst4 := hstt.trans (Step.setLoop (q' := q3) (r' := { rc2 with state := if j.isNone then .ready else .done, pending := j }) hq2 hlt2)
     have hne : (setLp s2 l q3).sv ≠ [] := fun e => by simp only [setLp] at e; rw [e] at hsvl; simp at hsvl
     have hlp3 : lpD (setLp s2 l q3).lp = lpD s.lp := by rw [← hlpn]; exact lpD_setN l q2 q3 (by rw [hq3]) _ hq2
     have hdep : ∀ nm x, lookN nm (setLp s2 l q3).lp = some x → x.depth + 1 < as.length := by
      intro nm x hx
      obtain ⟨q0, e1, e2⟩ := lpD_look hlp3 hx
      rw [← e2]; exact hR.dep nm q0 e1
     have hpop := hR4.pop hne hdep
     obtain ⟨g, gs, hsv⟩ := List.exists_cons_of_ne_nil hne
     have hsvrd := hst4.svrd
     rw [hsv] at hsvrd
     simp only [Sa.round, List.map_cons, List.cons.injEq] at hsvrd
     have hbx : (setLp s2 l q3).pop.bx = (setLp s2 l q3).bx ∧ (setLp s2 l q3).pop.ow = (setLp s2 l q3).ow ∧ (setLp s2 l q3).pop.lp = (setLp s2 l q3).lp ∧ (setLp s2 l q3).pop.rd = s.rd ∧ (setLp s2 l q3).pop.sv.map (·.rd) = s.sv.map (·.rd) := by
      simp only [Sa.pop, hsv]; exact ⟨trivial, trivial, trivial, hsvrd.1, hsvrd.2⟩
     have hlpm : ∀ nm, some nm ∈ rds s → m2.lp nm = m.lp nm := fun nm hnm => hst4.lpm nm (by
      simp only [rds, Sa.round, List.map_cons, List.mem_cons] at hnm ⊢
      exact .inr hnm)
     refine ⟨.bool j.isNone, .d (.b (goesOn ex2)), m2, (setLp s2 l q3).pop, rfl, by rw [hq3]; exact hk2, hpop, by rw [hg]; exact .d (.v trivial),
      ⟨hst4.keeps, by rw [hbx.1, hbx.2.1]; exact hst4.mt, by rw [hbx.2.2.1]; exact hst4.lp, hbx.2.2.2.1, hbx.2.2.2.2, hlpm⟩, ?_⟩
     simp only [rdOf, hbx.2.2.2.1]
     cases hrs : s.rd with
     | none => rfl
     | some l => simp only [Option.map_some, hlpm l (by simp [rds, hrs])]
    cases e2 with
    | normal => cases he2; exact fin none _ rfl rfl rfl
    | ret => cases he2; exact fin (some .ret) _ rfl rfl rfl
    | exit i => cases he2; exact fin (some (.exit i)) _ rfl rfl rfl
    | goto l => cases he2
    | panic c => cases he2
    | outgrown => cases he2
   ·exact hk2.elim
  ·exact hk.elim
theorem TC_rangeFuncT {g : Operand} {ps : Array Tmp} {assign body : Code} {gf : FuncId} {cap : List V} {fn : Func} {c : Code} {Q : Ex → Sa → Prop} (l qn : Name) (hrd : s.rd = none) (hrs : some l ∉ rds s) (hl : lookN l s.lp = none) (hy : s.ylds l = false)
  (hg : s.get g = .fn gf cap) (hycap : V.yldsL l cap = false) (hcal : callable P gf = true) (hf : P.funcs[gf]? = some fn) (hb : fn.body = some c) (hle : (V.yld l :: cap).length ≤ fn.ntmps)
  (h : TC P qn c (s.loopIn l fn.ntmps (.yld l :: cap) ⟨s.sv.length, ps, assign, body, none⟩) (LeftLoop P qn fn.results.toList l s Q)) : TC P p (.rangeFunc g ps assign body) s Q := by
 intro Mo m a sv w n hR
 have hrd0 : rdOf m s = none := by simp [rdOf, hrd]
 rw [hrd0]
 refine wpIn_rangeFunc (fun fnid _ => ?_)
 have hgv := hR.operand g
 rw [hg] at hgv
 obtain ⟨cs, e, hs, hrep⟩ := hgv.fn_inv
 have he := run_enterLoop_outer (P := P) (w := w) fnid a.tmps ps assign body
 generalize hw1 : ((w.alloc (.deferred (some []))).alloc (.loop { state := .ready, pending := none, fn := fnid, tmps := a.tmps, params := ps, assign, body, defers := w.heap.size })) = w1 at he
 have hbl : Below w.heap.size w w1 := by rw [← hw1]; exact ((Below.refl _ _).alloc (Nat.le_refl _) _).alloc (by simp) _
 have hB : w1.heap[w.heap.size]? = some (.deferred (some [])) := by
  rw [← hw1]
  have h1 := World.alloc_heap_new w (.deferred (some []))
  exact heap_below (below_alloc' _ _) h1
 have hN : w1.heap[w.heap.size + 1]? = some (.loop { state := .ready, pending := none, fn := fnid, tmps := a.tmps, params := ps, assign, body, defers := w.heap.size }) := by
  rw [← hw1]
  have h1 := World.alloc_heap_new (w.alloc (.deferred (some []))) (.loop { state := .ready, pending := none, fn := fnid, tmps := a.tmps, params := ps, assign, body, defers := w.heap.size })
  simpa using h1
 refine ⟨w.heap.size + 1, [{ target := .collected w.heap.size, args := #[] }], w1, { target := .fn (.func gf) cs, args := #[.func (.yield (w.heap.size + 1)) #[] #[]] }, w1, gf, #[.func (.yield (w.heap.size + 1)) #[] #[]] ++ cs, w1, he, ?_, fun _ _ => trivial, ?_, depth_none, ?_⟩
 ·have e1 : a.eval (.const (.func (.yield (w.heap.size + 1)) #[] #[])) = .func (.yield (w.heap.size + 1)) #[] #[] := rfl
  simp [resolve, e, Deferred.ofValue, e1]
 ·simp only [invoke]; exact run_callFunc hcal _
 have hyall := Sa.ylds_all hy
 have hargs : ArgsOK w1 (Tot Mo s.bx s.ow m) (m.setLp l (w.heap.size + 1)) (.yld l :: cap) (#[.func (.yield (w.heap.size + 1)) #[] #[]] ++ cs) := by
  refine ⟨by simp [hs]; omega, fun i hi => ?_⟩
  cases i with
  | zero =>
   have : (m.setLp l (w.heap.size + 1)).lp l = w.heap.size + 1 := by simp [Mp.setLp]
   simp only [List.getElem_cons_zero]
   have h0 := @RepV.yld w1 (Tot Mo s.bx s.ow m) (m.setLp l (w.heap.size + 1)) l
   rw [this] at h0
   have e2 : (#[Value.func (.yield (w.heap.size + 1)) #[] #[]] ++ cs).getD 0 undef = Value.func (.yield (w.heap.size + 1)) #[] #[] := by
    rw [Array.getD_eq_getD_getElem?, Array.getElem?_append_left (by simp)]; rfl
   rw [e2]; exact h0
  | succ i =>
   have hi' : i < cap.length := by simpa using hi
   have h0 := (hrep i hi').newLp (w' := w1) (l := l) (N := w.heap.size + 1) (fun hx => V.yldsL_lps l cap hycap (mem_lpsL hi' hx)) hbl
   simp only [List.getElem_cons_succ]
   rw [Array.getD_eq_getD_getElem?] at h0 ⊢
   rw [Array.getElem?_append_right (by simp)]
   simpa using h0
 have h0 := hR.loopIn (ps := ps) (assign := assign) (body := body) (nt := fn.ntmps) hyall hl hbl hB (Nat.le_refl _) hN (by omega) ⟨rfl, rfl, rfl, rfl, rfl, rfl⟩ hargs hle
 refine callsIn_of_wp_marks hf hb trivial ?_ rfl
 have h1 := h Mo (m.setLp l (w.heap.size + 1)) _ _ w1 (n - 1) h0
 have hrd1 : rdOf (m.setLp l (w.heap.size + 1)) (s.loopIn l fn.ntmps (.yld l :: cap) ⟨s.sv.length, ps, assign, body, none⟩) = none := rfl
 rw [hrd1] at h1
 refine wpIn_mono h1 ?_
 rintro e a' w' ⟨ex, m', s', hex, ⟨hexx, hsvl, hlpn, hres⟩, hR', hst, _, hmk⟩
 have hmarks : ∀ d ∈ a'.defers, ∃ r, d = { target := .collected r, args := #[] } ∧ w1.heap.size ≤ r := fun d hd => by
  rcases hmk d hd with h | h
  ·simp at h
  ·exact h
 have hfin : LeavesInM (Wd none) (n - 1) P fn a'.tmps (rangePost (Wd none) n P (w.heap.size + 1) (CodePost Mo m s a.defers sv w Q) { a with defers := [{ target := .collected w.heap.size, args := #[] }] ++ a.defers }) a'.defers .returning w' := by
  refine leaves w1.heap.size hres a'.defers a' w' rfl hR' hmarks (fun vs cc w2 hk hR2 hv hb2 => ?_)
  split at hk
  ·rename_i l0 q tl hlp
   have hl0 : l0 = l ∧ q.depth = s.sv.length ∧ lpD tl = lpD s.lp := by
    rw [hlp] at hlpn
    simp only [lpD, List.map_cons, List.cons.injEq, Prod.mk.injEq] at hlpn
    exact ⟨hlpn.1.1, hlpn.1.2, hlpn.2⟩
   obtain ⟨rfl, hqd, htl⟩ := hl0
   have hlook : lookN l0 s'.lp = some q := by rw [hlp]; simp [lookN]
   have hmlp : m'.lp l0 = w.heap.size + 1 := by
    have := hst.lpm l0 (by simp [rds, Sa.loopIn])
    rw [this]; simp [Mp.setLp]
   obtain ⟨rc, b, hx⟩ := hR2.lps l0 q hlook
   have hnb : rc.state ≠ .busy := by
    have := hx.stat
    split at this
    ·rw [this.1]; decide
    ·rw [this.1]; decide
    ·rename_i hp; rw [hp] at hk; exact hk.elim
   have hend := run_endLoop (P := P) hx.heap hnb
   have hR3 := hR2.dropLoop (r' := { rc with state := .exhausted }) hlp (lpD_none htl.symm hl) hx.heap
   have hne : ({ s' with lp := tl } : Sa).sv ≠ [] := fun e => by simp only at e; rw [e] at hsvl; simp at hsvl
   have hdep : ∀ nm x, lookN nm ({ s' with lp := tl } : Sa).lp = some x → x.depth + 1 < ({ a with defers := { target := .collected w.heap.size, args := #[] } :: a.defers } :: sv).length := by
    intro nm x hx
    obtain ⟨q0, e1, e2⟩ := lpD_look htl hx
    rw [← e2]; exact hR.dep nm q0 e1
   have hpop := (hR3.pop hne hdep).setRd none
   obtain ⟨g, gs, hsv⟩ := List.exists_cons_of_ne_nil hne
   simp only at hsv
   have hout : ({ ({ s' with lp := tl } : Sa).pop with rd := none } : Sa) = s'.loopOut := by
    simp [Sa.pop, Sa.loopOut, hsv, hlp]
   rw [hout] at hpop
   have hsvrd := hst.svrd
   rw [hsv] at hsvrd
   simp only [Sa.loopIn, List.map_cons, List.cons.injEq] at hsvrd
   have hbx : s'.loopOut.bx = s'.bx ∧ s'.loopOut.ow = s'.ow ∧ s'.loopOut.lp = tl ∧ s'.loopOut.rd = none ∧ s'.loopOut.sv.map (·.rd) = s.sv.map (·.rd) := by
    simp only [Sa.loopOut, hsv, hlp, List.tail_cons]; exact ⟨trivial, trivial, trivial, trivial, hsvrd.2⟩
   have hstep1 : Step m s w (m.setLp l0 (w.heap.size + 1)) { s with lp := (l0, ⟨s.sv.length, ps, assign, body, none⟩) :: s.lp } w1 := by
    refine ⟨.of_below hbl, fun b o _ hm => hm, ?_, rfl, rfl, ?_⟩
    ·rintro b hb ⟨nm, x, hx, rfl⟩
     simp only [lookN] at hx
     split at hx
     ·rename_i e; subst e
      simp only [Mp.setLp, if_true] at hb
      omega
     ·rename_i e
      refine ⟨nm, x, hx, ?_⟩
      simp only [Mp.setLp]
      rw [if_neg (Ne.symm e)]
    ·intro nm hnm
     have : nm ≠ l0 := fun e => hrs (e ▸ hnm)
     simp [Mp.setLp, this]
   have hkp : Keeps w1 w2 (Mut s.bx s.ow (m.setLp l0 (w.heap.size + 1))) (LpB ((l0, ⟨s.sv.length, ps, assign, body, none⟩) :: s.lp) (m.setLp l0 (w.heap.size + 1))) := (hst.after hb2).keeps
   have hstep2 : Step (m.setLp l0 (w.heap.size + 1)) { s with lp := (l0, ⟨s.sv.length, ps, assign, body, none⟩) :: s.lp } w1 m' s'.loopOut w2 := by
    refine ⟨hkp, ?_, ?_, ?_, ?_, ?_⟩
    ·rw [hbx.1, hbx.2.1]; exact hst.mt
    ·rintro b hb ⟨nm, x, hx, rfl⟩
     rw [hbx.2.2.1] at hx
     refine hst.lp _ hb ⟨nm, x, ?_, rfl⟩
     rw [hlp]; simp only [lookN]
     have : nm ≠ l0 := fun e => by
      rw [e, lpD_none htl.symm hl] at hx; cases hx
     rw [if_neg (Ne.symm this)]; exact hx
    ·rw [hbx.2.2.2.1, ← hrd]
    ·rw [hbx.2.2.2.2]
    ·intro nm hnm
     refine hst.lpm nm ?_
     simp only [rds, Sa.loopIn, List.map_cons, List.mem_cons] at hnm ⊢
     rcases hnm with h | h
     ·rw [hrd] at h; cases h
     ·exact .inr (.inr h)
   have hstep := (hstep1.trans hstep2).after (below_putObj (B := w.heap.size) (r := m'.lp l0) (o := .loop { rc with state := .exhausted }) (by rw [hmlp]; omega))
   have hrdo : rdOf m' s'.loopOut = rdOf m s := by simp [rdOf, hbx.2.2.2.1, hrd]
   have hnm : NewMarks a.defers w ({ target := .collected w.heap.size, args := #[] } :: a.defers) := fun d hd => by
    rcases List.mem_cons.1 hd with rfl | hd
    ·exact .inr ⟨_, rfl, Nat.le_refl _⟩
    ·exact .inl hd
   generalize w2.putObj (m'.lp l0) (.loop { rc with state := .exhausted }) = w4 at hend hpop hstep
   refine ⟨rc.pending, w4, by rw [← hmlp]; exact hend, ?_⟩
   have hstat := hx.stat
   split at hk
   ·rename_i hp
    rw [hp] at hstat
    rw [hstat.2]
    exact ⟨.norm, m', s'.loopOut, rfl, hk, hpop, hstep, hrdo, hnm⟩
   ·exact hk.elim
   ·rename_i j hp
    rw [hp] at hstat
    rw [hstat.2]
    have h9 := ev_sound hk Mo m' _ sv _ n hpop
    have hrd9 : rdOf m' s'.loopOut = none := by rw [hrdo, hrd0]
    rw [hrd9] at h9
    exact wpIn_mono h9 (fun e a2 w2 hp => CodePost.step hstep hrdo hnm hp)
  ·exact hk.elim
 cases e with
 | normal => cases hex; exact hfin
 | ret => cases hex; exact hfin
 | exit i => cases hex; exact hexx.elim
 | goto l => cases hex
 | panic c => cases hex
 | outgrown => cases hex
theorem TC_loopU {ι : Type} (S : ι → Sa) (μ : ι → Nat) {b : Code} {Q : Ex → Sa → Prop}
  (h : ∀ i, TC P p b (S i) (fun e s' => match e with | .norm => ∃ j, Wk s' (S j) ∧ μ j < μ i | e => Q e s')) (i : ι) : TC P p (.loop b) (S i) Q := by
 intro Mo m a sv w n hR
 refine wpIn_loop_ix (fun j a' w' => ∃ m', Rel Mo m' (S j) (a' :: sv) w' ∧ Step m (S i) w m' (S j) w' ∧ rdOf m' (S j) = rdOf m (S i) ∧ NewMarks a.defers w a'.defers) μ ?_ i a w ⟨m, hR, Step.refl _ _ _, rfl, .refl⟩
 rintro j a1 w1 ⟨m1, hR1, hst1, hrd1, hmk1⟩
 have h1 := (h j) Mo m1 a1 sv w1 n hR1
 rw [hrd1] at h1
 refine wpIn_mono h1 ?_
 rintro e a2 w2 ⟨ex, m2, s2, he, hq, hR2, hst2, hrd2, hmk2⟩
 have hmk : NewMarks a.defers w a2.defers := fun d hd => by
  rcases hmk2 d hd with h | ⟨r, e, hr⟩
  ·exact hmk1 d h
  ·exact .inr ⟨r, e, Nat.le_trans hst1.keeps.size hr⟩
 cases e with
 | normal =>
  cases he
  obtain ⟨j', hw, hlt⟩ := hq
  obtain ⟨m3, hR3, hst3, hrd3⟩ := hw Mo m2 _ w2 hR2
  exact ⟨j', ⟨m3, hR3, (hst1.trans hst2).trans hst3, (hrd3.trans hrd2).trans hrd1, hmk⟩, hlt⟩
 | exit i => cases he; exact ⟨_, m2, s2, rfl, hq, hR2, hst1.trans hst2, hrd2.trans hrd1, hmk⟩
 | ret => cases he; exact ⟨_, m2, s2, rfl, hq, hR2, hst1.trans hst2, hrd2.trans hrd1, hmk⟩
 | goto l => cases he
 | panic c => cases he
 | outgrown => cases he
end Go.Ab
namespace Go.Ab
open Go Go.RowKit
set_option linter.unusedVariables false
variable {P : Program} {w : World} {n : Nat} {Mo : Cells} {m : Mp} {s : Sa} {as : List Act} {p : Name}
def Sa.loopOutR (s : Sa) (r : Option Name) : Sa := match s.sv with
 | f :: fs => { rd := r, n := f.n, ts := f.ts, sv := fs, bx := s.bx, lp := s.lp.tail, ow := s.ow, vc := s.vc }
 | [] => s
def LeftLoopN (P : Program) (p : Name) (rs : List ResultVar) (l : Name) (s0 : Sa) (Q : Ex → Sa → Prop) (e : Ex) (s : Sa) : Prop :=
 (match e with | .exit _ => False | _ => True) ∧ s.sv.length = s0.sv.length + 1 ∧ lpD s.lp = (l, s0.sv.length) :: lpD s0.lp ∧ resK P s rs fun _ => match s.lp with
  | (_, q) :: _ => match q.pending with
   | none => Q .norm (s.loopOutR s0.rd)
   | some none => False
   | some (some c) => ev P (sems P) p c (s.loopOutR s0.rd) Q
  | [] => False
theorem Rel.loopInN {a : Act} {sv : List Act} {w1 : World} {l : Name} {args : List V} {vs : Array Value} {nt : Nat} {ps : Array Tmp} {assign body : Code} {r : Loop} (h : Rel Mo m s (a :: sv) w) (hy : AllV (fun v => l ∉ v.lps) s) (hn : lookN l s.lp = none)
  (hbl : Below w.heap.size w w1) {N : Nat} (hN : w1.heap[N]? = some (.loop r)) (hNs : w.heap.size ≤ N)
  (hr : r.params = ps ∧ r.assign = assign ∧ r.body = body ∧ r.tmps = a.tmps ∧ r.state = .ready ∧ r.pending = none)
  (ha : ArgsOK w1 (Tot Mo s.bx s.ow m) (m.setLp l N) args vs) (hle : args.length ≤ nt) :
  Rel Mo (m.setLp l N) (s.loopIn l nt args ⟨s.sv.length, ps, assign, body, none⟩)
   ({ tmps := vs ++ Array.replicate (nt - vs.size) undef, defers := [] } :: a :: sv) w1 := by
 have h1 := h.newLp (N := N) hy hn hbl
 have h2 := (h1.setRd (some l)).push (args := args) (vs := vs) nt ha hle
 refine h2.addLoop (l := l) (q := ⟨s.sv.length, ps, assign, body, none⟩) (r := r) (a := a) hn ?_ ?_ ?_
 ·refine ⟨by simpa [Mp.setLp] using hN, hr.1, hr.2.1, hr.2.2.1, ?_, hr.2.2.2.1, hr.2.2.2.2⟩
  have hl := h.len
  simp only [List.length_cons, Nat.add_right_cancel_iff] at hl
  have e : ∀ (x y : Act), (x :: y :: sv).reverse[s.sv.length]? = some y := fun x y => by
   rw [← hl]
   simp
  exact e _ _
 ·have hl := h.len
  simp only [List.length_cons] at hl ⊢
  omega
 ·intro l' p' hl
  have : l' ≠ l := fun e => by rw [e] at hl; exact absurd hl (by simp [Sa.push, hn])
  obtain ⟨rc, b, hx⟩ := h.lps l' p' hl
  have := (Array.getElem?_eq_some_iff.1 hx.heap).1
  simp only [Mp.setLp, if_true]
  rw [if_neg (by assumption)]
  omega
theorem TC_rangeFuncN {g : Operand} {ps : Array Tmp} {assign body : Code} {gf : FuncId} {cap : List V} {fn : Func} {c : Code} {Q : Ex → Sa → Prop} (l qn : Name) {l0 : Name} {q0 : Lp} (hrd : s.rd = some l0) (hl0 : lookN l0 s.lp = some q0) (hsv0 : some l0 ∈ s.sv.map (·.rd)) (hrs : some l ∉ rds s) (hl : lookN l s.lp = none) (hy : s.ylds l = false)
  (hg : s.get g = .fn gf cap) (hycap : V.yldsL l cap = false) (hcal : callable P gf = true) (hf : P.funcs[gf]? = some fn) (hb : fn.body = some c) (hle : (V.yld l :: cap).length ≤ fn.ntmps)
  (h : TC P qn c (s.loopIn l fn.ntmps (.yld l :: cap) ⟨s.sv.length, ps, assign, body, none⟩) (LeftLoopN P qn fn.results.toList l s Q)) : TC P p (.rangeFunc g ps assign body) s Q := by
 intro Mo m a sv w n hR
 have hrd0 : rdOf m s = some (m.lp l0) := by simp [rdOf, hrd]
 rw [hrd0]
 obtain ⟨r0, b0, hx0⟩ := hR.lps l0 q0 hl0
 refine wpIn_rangeFunc (fun fnid _ => ?_)
 have hgv := hR.operand g
 rw [hg] at hgv
 obtain ⟨cs, e, hs, hrep⟩ := hgv.fn_inv
 have he := run_enterLoop_inner (P := P) (w := w) hx0.heap fnid a.tmps ps assign body
 generalize hw1 : (w.alloc (.loop { state := .ready, pending := none, fn := fnid, tmps := a.tmps, params := ps, assign, body, defers := r0.defers })) = w1 at he
 have hbl : Below w.heap.size w w1 := by rw [← hw1]; exact (Below.refl _ _).alloc (Nat.le_refl _) _
 have hN : w1.heap[w.heap.size]? = some (.loop { state := .ready, pending := none, fn := fnid, tmps := a.tmps, params := ps, assign, body, defers := r0.defers }) := by
  rw [← hw1]
  exact World.alloc_heap_new w _
 refine ⟨w.heap.size, [], w1, { target := .fn (.func gf) cs, args := #[.func (.yield (w.heap.size)) #[] #[]] }, w1, gf, #[.func (.yield (w.heap.size)) #[] #[]] ++ cs, w1, he, ?_, fun _ _ => trivial, ?_, depth_none, ?_⟩
 ·have e1 : a.eval (.const (.func (.yield (w.heap.size)) #[] #[])) = .func (.yield (w.heap.size)) #[] #[] := rfl
  simp [resolve, e, Deferred.ofValue, e1]
 ·simp only [invoke]; exact run_callFunc hcal _
 have hyall := Sa.ylds_all hy
 have hargs : ArgsOK w1 (Tot Mo s.bx s.ow m) (m.setLp l (w.heap.size)) (.yld l :: cap) (#[.func (.yield (w.heap.size)) #[] #[]] ++ cs) := by
  refine ⟨by simp [hs]; omega, fun i hi => ?_⟩
  cases i with
  | zero =>
   have : (m.setLp l (w.heap.size)).lp l = w.heap.size := by simp [Mp.setLp]
   simp only [List.getElem_cons_zero]
   have h0 := @RepV.yld w1 (Tot Mo s.bx s.ow m) (m.setLp l (w.heap.size)) l
   rw [this] at h0
   have e2 : (#[Value.func (.yield (w.heap.size)) #[] #[]] ++ cs).getD 0 undef = Value.func (.yield (w.heap.size)) #[] #[] := by
    rw [Array.getD_eq_getD_getElem?, Array.getElem?_append_left (by simp)]; rfl
   rw [e2]; exact h0
  | succ i =>
   have hi' : i < cap.length := by simpa using hi
   have h0 := (hrep i hi').newLp (w' := w1) (l := l) (N := w.heap.size) (fun hx => V.yldsL_lps l cap hycap (mem_lpsL hi' hx)) hbl
   simp only [List.getElem_cons_succ]
   rw [Array.getD_eq_getD_getElem?] at h0 ⊢
   rw [Array.getElem?_append_right (by simp)]
   simpa using h0
 have h0 := hR.loopInN (ps := ps) (assign := assign) (body := body) (nt := fn.ntmps) hyall hl hbl hN (Nat.le_refl _) ⟨rfl, rfl, rfl, rfl, rfl, rfl⟩ hargs hle
 refine callsIn_round (r := some (m.lp l0)) (callsIn_of_wp_marks hf hb trivial ?_ rfl)
 have h1 := h Mo (m.setLp l (w.heap.size)) _ _ w1 (n - 1) h0
 have hrd1 : rdOf (m.setLp l (w.heap.size)) (s.loopIn l fn.ntmps (.yld l :: cap) ⟨s.sv.length, ps, assign, body, none⟩) = none := rfl
 rw [hrd1] at h1
 refine wpIn_mono h1 ?_
 rintro e a' w' ⟨ex, m', s', hex, ⟨hexx, hsvl, hlpn, hres⟩, hR', hst, _, hmk⟩
 have hmarks : ∀ d ∈ a'.defers, ∃ r, d = { target := .collected r, args := #[] } ∧ w1.heap.size ≤ r := fun d hd => by
  rcases hmk d hd with h | h
  ·simp at h
  ·exact h
 have hfin : LeavesInM (Wd none) (n - 1) P fn a'.tmps (rangePost (Wd (some (m.lp l0))) n P (w.heap.size) (CodePost Mo m s a.defers sv w Q) { a with defers := [] ++ a.defers }) a'.defers .returning w' := by
  refine leaves w1.heap.size hres a'.defers a' w' rfl hR' hmarks (fun vs cc w2 hk hR2 hv hb2 => ?_)
  split at hk
  ·rename_i l1 q tl hlp
   have hl00 : l1 = l ∧ q.depth = s.sv.length ∧ lpD tl = lpD s.lp := by
    rw [hlp] at hlpn
    simp only [lpD, List.map_cons, List.cons.injEq, Prod.mk.injEq] at hlpn
    exact ⟨hlpn.1.1, hlpn.1.2, hlpn.2⟩
   obtain ⟨rfl, hqd, htl⟩ := hl00
   have hlook : lookN l1 s'.lp = some q := by rw [hlp]; simp [lookN]
   have hmlp : m'.lp l1 = w.heap.size := by
    have := hst.lpm l1 (by simp [rds, Sa.loopIn])
    rw [this]; simp [Mp.setLp]
   obtain ⟨rc, b, hx⟩ := hR2.lps l1 q hlook
   have hnb : rc.state ≠ .busy := by
    have := hx.stat
    split at this
    ·rw [this.1]; decide
    ·rw [this.1]; decide
    ·rename_i hp; rw [hp] at hk; exact hk.elim
   have hend := run_endLoop (P := P) hx.heap hnb
   have hR3 := hR2.dropLoop (r' := { rc with state := .exhausted }) hlp (lpD_none htl.symm hl) hx.heap
   have hne : ({ s' with lp := tl } : Sa).sv ≠ [] := fun e => by simp only at e; rw [e] at hsvl; simp at hsvl
   have hdep : ∀ nm x, lookN nm ({ s' with lp := tl } : Sa).lp = some x → x.depth + 1 < (a :: sv).length := by
    intro nm x hx
    obtain ⟨q0, e1, e2⟩ := lpD_look htl hx
    rw [← e2]; exact hR.dep nm q0 e1
   have hpop := (hR3.pop hne hdep).setRd (some l0)
   obtain ⟨g, gs, hsv⟩ := List.exists_cons_of_ne_nil hne
   simp only at hsv
   have hout : ({ ({ s' with lp := tl } : Sa).pop with rd := some l0 } : Sa) = s'.loopOutR s.rd := by
    simp [Sa.pop, Sa.loopOutR, hsv, hlp, hrd]
   rw [hout] at hpop
   have hsvrd := hst.svrd
   rw [hsv] at hsvrd
   simp only [Sa.loopIn, List.map_cons, List.cons.injEq] at hsvrd
   have hbx : (s'.loopOutR s.rd).bx = s'.bx ∧ (s'.loopOutR s.rd).ow = s'.ow ∧ (s'.loopOutR s.rd).lp = tl ∧ (s'.loopOutR s.rd).rd = s.rd ∧ (s'.loopOutR s.rd).sv.map (·.rd) = s.sv.map (·.rd) := by
    simp only [Sa.loopOutR, hsv, hlp, List.tail_cons]; exact ⟨trivial, trivial, trivial, trivial, hsvrd.2⟩
   have hstep1 : Step m s w (m.setLp l1 (w.heap.size)) { s with lp := (l1, ⟨s.sv.length, ps, assign, body, none⟩) :: s.lp } w1 := by
    refine ⟨.of_below hbl, fun b o _ hm => hm, ?_, rfl, rfl, ?_⟩
    ·rintro b hb ⟨nm, x, hx, rfl⟩
     simp only [lookN] at hx
     split at hx
     ·rename_i e; subst e
      simp only [Mp.setLp, if_true] at hb
      omega
     ·rename_i e
      refine ⟨nm, x, hx, ?_⟩
      simp only [Mp.setLp]
      rw [if_neg (Ne.symm e)]
    ·intro nm hnm
     have : nm ≠ l1 := fun e => hrs (e ▸ hnm)
     simp [Mp.setLp, this]
   have hkp : Keeps w1 w2 (Mut s.bx s.ow (m.setLp l1 (w.heap.size))) (LpB ((l1, ⟨s.sv.length, ps, assign, body, none⟩) :: s.lp) (m.setLp l1 (w.heap.size))) := (hst.after hb2).keeps
   have hstep2 : Step (m.setLp l1 (w.heap.size)) { s with lp := (l1, ⟨s.sv.length, ps, assign, body, none⟩) :: s.lp } w1 m' (s'.loopOutR s.rd) w2 := by
    refine ⟨hkp, ?_, ?_, ?_, ?_, ?_⟩
    ·rw [hbx.1, hbx.2.1]; exact hst.mt
    ·rintro b hb ⟨nm, x, hx, rfl⟩
     rw [hbx.2.2.1] at hx
     refine hst.lp _ hb ⟨nm, x, ?_, rfl⟩
     rw [hlp]; simp only [lookN]
     have : nm ≠ l1 := fun e => by
      rw [e, lpD_none htl.symm hl] at hx; cases hx
     rw [if_neg (Ne.symm this)]; exact hx
    ·exact hbx.2.2.2.1
    ·rw [hbx.2.2.2.2]
    ·intro nm hnm
     refine hst.lpm nm ?_
     simp only [rds, Sa.loopIn, List.map_cons, List.mem_cons] at hnm ⊢
     rcases hnm with h | h
     ·rw [hrd] at h; cases h; exact .inr (.inr hsv0)
     ·exact .inr (.inr h)
   have hstep := (hstep1.trans hstep2).after (below_putObj (B := w.heap.size) (r := m'.lp l1) (o := .loop { rc with state := .exhausted }) (by rw [hmlp]; omega))
   have hrdo : rdOf m' (s'.loopOutR s.rd) = rdOf m s := by
    have h1 : m'.lp l0 = (m.setLp l1 w.heap.size).lp l0 := hst.lpm l0 (by simp only [rds, Sa.loopIn, List.map_cons, List.mem_cons]; exact .inr (.inr hsv0))
    have h2 : l0 ≠ l1 := fun e => hrs (by rw [← e]; simp [rds, hrd])
    have h3 : (m.setLp l1 w.heap.size).lp l0 = m.lp l0 := by simp [Mp.setLp, h2]
    unfold rdOf
    rw [hbx.2.2.2.1, hrd, Option.map_some, Option.map_some, h1, h3]
   have hnm : NewMarks a.defers w ([] ++ a.defers) := fun d hd => .inl hd
   generalize w2.putObj (m'.lp l1) (.loop { rc with state := .exhausted }) = w4 at hend hpop hstep
   refine ⟨rc.pending, w4, by rw [← hmlp]; exact hend, ?_⟩
   have hstat := hx.stat
   split at hk
   ·rename_i hp
    rw [hp] at hstat
    rw [hstat.2]
    exact ⟨.norm, m', (s'.loopOutR s.rd), rfl, hk, hpop, hstep, hrdo, hnm⟩
   ·exact hk.elim
   ·rename_i j hp
    rw [hp] at hstat
    rw [hstat.2]
    have h9 := ev_sound hk Mo m' _ sv _ n hpop
    have hrd9 : rdOf m' (s'.loopOutR s.rd) = some (m.lp l0) := by rw [hrdo, hrd0]
    rw [hrd9] at h9
    exact wpIn_mono h9 (fun e a2 w2 hp => CodePost.step hstep hrdo hnm hp)
  ·exact hk.elim
 cases e with
 | normal => cases hex; exact hfin
 | ret => cases hex; exact hfin
 | exit i => cases hex; exact hexx.elim
 | goto l => cases hex
 | panic c => cases hex
 | outgrown => cases hex
theorem loopOutR_none (s : Sa) : s.loopOutR none = s.loopOut := rfl
theorem leftLoopN_none {rs : List ResultVar} {l : Name} {Q : Ex → Sa → Prop} (h : s.rd = none) : LeftLoopN P p rs l s Q = LeftLoop P p rs l s Q := by
 unfold LeftLoopN LeftLoop
 rw [h]
 rfl
theorem TC_rangeFuncA {g : Operand} {ps : Array Tmp} {assign body : Code} {gf : FuncId} {cap : List V} {fn : Func} {c : Code} {Q : Ex → Sa → Prop} (l qn : Name) (hrd : s.rd = none ∨ ∃ l0 q0, s.rd = some l0 ∧ lookN l0 s.lp = some q0 ∧ some l0 ∈ s.sv.map (·.rd)) (hrs : some l ∉ rds s) (hl : lookN l s.lp = none) (hy : s.ylds l = false)
  (hg : s.get g = .fn gf cap) (hycap : V.yldsL l cap = false) (hcal : callable P gf = true) (hf : P.funcs[gf]? = some fn) (hb : fn.body = some c) (hle : (V.yld l :: cap).length ≤ fn.ntmps)
  (h : TC P qn c (s.loopIn l fn.ntmps (.yld l :: cap) ⟨s.sv.length, ps, assign, body, none⟩) (LeftLoopN P qn fn.results.toList l s Q)) : TC P p (.rangeFunc g ps assign body) s Q := by
 rcases hrd with hrd | ⟨l0, q0, hrd, h1, h2⟩
 ·rw [leftLoopN_none hrd] at h
  exact TC_rangeFuncT l qn hrd hrs hl hy hg hycap hcal hf hb hle h
 ·exact TC_rangeFuncN l qn hrd h1 h2 hrs hl hy hg hycap hcal hf hb hle h
end Go.Ab
namespace Go.Tx
set_option linter.unusedVariables false
set_option linter.unusedSimpArgs false
open Go Go.Ab
structure Cx where
 P : Program
 tb : Tab
 pl : FuncId → Nat → List Seg
 hl : Nat → Option (List Nat × List Name × List Name × Cv)
 sp : FuncId → Option Spec := fun _ => none
def Cx.tbo (C : Cx) : Tab := fun g => match C.sp g with
 | some _ => none
 | none => C.tb g
mutual
def vecIn : SV → Option Name
 | .vsl n => some n
 | .vpt n _ _ _ => some n
 | .fn _ c => vecInL c
 | .agg c => vecInL c
 | .mix _ _ _ c => vecInL c
 | .tup c => vecInL c
 | .gd _ x => vecIn x
 | _ => none
def vecInL : List SV → Option Name
 | [] => none
 | x :: l => match vecIn x with
  | some n => some n
  | none => vecInL l
end
def quick (C : Cx) (nm : Name) (g : FuncId) (args : List SV) (y : Sy) : Option (Bs × Sy × SV) :=
 match C.sp g with
 | some sp => spCall C.P nm sp args y
 | none => match callS C.tb y.g.length g args with
  | some (bs, z) => some (bs, y.more (bs.map (·.2)), z)
  | none => none
def softAt (C : Cx) (g : FuncId) (args : List SV) (y : Sy) : Option (Name × Ty × E) :=
 match C.tb g, vecInL args with
 | some _, some i => match lookN i y.vc with
  | some (u, q) => some (i, u, q)
  | none => none
 | _, _ => none
abbrev Hint := List Nat × List Name × List Name × Cv
abbrev Log := List (Nat × Hint)
structure Res where
 t : T
 L : List Leaf
 c : Nat
 log : Log
abbrev Ps := List (Ty × List E)
def allOf {α β : Type} (f : α → Option β) : List α → Option (List β)
 | [] => some []
 | x :: xs => match f x, allOf f xs with
  | some y, some ys => some (y :: ys)
  | _, _ => none
def headsOf : List (List SV) → Option (List SV × List (List SV))
 | [] => some ([], [])
 | (x :: xs) :: l => match headsOf l with
  | some (hs, ts) => some (x :: hs, xs :: ts)
  | none => none
 | [] :: _ => none
def isDead : SV → Bool
 | .dead => true
 | _ => false
def joinL (F : List SV → Ps → SV × Ps) : Nat → List (List SV) → Ps → Option (List SV × Ps)
 | 0, _, ps => some ([], ps)
 | k + 1, xs, ps => match headsOf xs with
  | some (hs, ts) => match F hs ps with
   | (y, ps1) => if isDead y then none else match joinL F k ts ps1 with
    | some (ys, ps2) => some (y :: ys, ps2)
    | none => none
  | none => none
def baseJ (n0 : Nat) (t : Ty) (xs : List (E × List SV)) (ps : Ps) : E × Ps := match xs with
 | [] => (.var 0, ps)
 | (b, l) :: r => if r.all (fun q => q.1.same b) && b.lt n0 then (b, ps) else (.var (n0 + ps.length), ps ++ [(t, ((b, l) :: r).map fun q => q.1)])
def joinV (n0 : Nat) : Nat → List SV → Ps → SV × Ps
 | 0, _, ps => (.dead, ps)
 | d + 1, zs, ps => match zs with
  | [] => (.dead, ps)
  | z :: rest => if rest.all (fun x => x.same z) && z.lt n0 then (z, ps) else match z with
   | .e t _ => match allOf (fun x => match x with | .e u y => if u = t then some y else none | _ => none) zs with
    | some xs => (.e t (.var (n0 + ps.length)), ps ++ [(t, xs)])
    | none => (.dead, ps)
   | .own i sz t _ => match allOf (fun x => match x with | .own j _ u y => if u = t ∧ i = j then some y else none | _ => none) zs with
    | some xs => (.own i sz t (.var (n0 + ps.length)), ps ++ [(.sl t, xs)])
    | none => (.dead, ps)
   | .mpc k t _ => match allOf (fun x => match x with | .mpc q u y => if u = t ∧ q = k then some y else none | _ => none) zs with
    | some xs => (.mpc k t (.var (n0 + ps.length)), ps ++ [(.mp k t, xs)])
    | none => (.dead, ps)
   | .ref t _ o => match allOf (fun x => match x with | .ref u y a => if u = t ∧ a = o then some y else none | _ => none) zs with
    | some xs => (.ref t (.var (n0 + ps.length)) o, ps ++ [(t, xs)])
    | none => (.dead, ps)
   | .agg cs => match allOf (fun x => match x with | .agg y => if y.length = cs.length then some y else none | _ => none) zs with
    | some xs => match joinL (joinV n0 d) cs.length xs ps with
     | some (ys, ps) => (.agg ys, ps)
     | none => (.dead, ps)
    | none => (.dead, ps)
   | .mix t _ os cs => match allOf (β := E × List SV) (fun x => match x with | .mix u y ps ws => if u = t ∧ ps = os then some (y, ws) else none | _ => none) zs with
    | some xs => match baseJ n0 t xs ps with
     | (b, ps0) => match joinL (joinV n0 d) cs.length (xs.map fun q => q.2) ps0 with
      | some (ys, ps1) => (.mix t b os ys, ps1)
      | none => (.dead, ps)
    | none => (.dead, ps)
   | .fn f cs => match allOf (fun x => match x with | .fn g y => if y.length = cs.length ∧ f = g then some y else none | _ => none) zs with
    | some xs => match joinL (joinV n0 d) cs.length xs ps with
     | some (ys, ps) => (.fn f ys, ps)
     | none => (.dead, ps)
    | none => (.dead, ps)
   | _ => (.dead, ps)
def joinTs (n0 : Nat) (ys : List Sy) : List (Nat × SV) → Ps → List (Nat × SV) × Ps
 | [], ps => ([], ps)
 | (t, _) :: l, ps => match joinV n0 4 (ys.map fun y => lkS t y.ts) ps with
  | (z, ps1) => match joinTs n0 ys l ps1 with
   | (r, ps2) => if isDead z then (r, ps2) else ((t, z) :: r, ps2)
def joinBs (n0 : Nat) (ys : List Sy) : List (Name × SV) → Ps → List (Name × SV) × Ps
 | [], ps => ([], ps)
 | (n, _) :: l, ps => match allOf (fun (y : Sy) => lookN n y.bx) ys with
  | some zs => match joinV n0 4 zs ps with
   | (z, ps1) => match joinBs n0 ys l ps1 with
    | (r, ps2) => if isDead z then (r, ps2) else ((n, z) :: r, ps2)
  | none => joinBs n0 ys l ps
def interN (a b : List Name) : List Name := a.filter fun i => b.contains i
def joinCs (n0 : Nat) (ys : List Sy) : List (Name × Ty × E) → Ps → List (Name × Ty × E) × Ps
 | [], ps => ([], ps)
 | (n, t, x) :: l, ps => match allOf (fun (y : Sy) => match lookN n y.vc with | some (u, e) => if u = t then some e else none | none => none) ys with
  | some es => if es.all (fun e => e.same x) && x.lt n0 then (match joinCs n0 ys l ps with | (r, ps2) => ((n, t, x) :: r, ps2))
   else (match joinCs n0 ys l (ps ++ [(.sl t, es)]) with | (r, ps2) => ((n, t, .var (n0 + ps.length)) :: r, ps2))
  | none => joinCs n0 ys l ps
def commonC (ys : List Sy) (n : Name) : Bool := match ys with
 | [] => true
 | y :: rest => match lookN n y.vc with
  | some (t, _) => rest.all fun z => match lookN n z.vc with | some (u, _) => decide (u = t) | none => false
  | none => false
def unlikeC (ys : List Sy) (common : List Name) : List Name := ((ys.flatMap fun z => (z.vc.map (·.1)).filter fun n => !commonC ys n).eraseDups).map fun n => if common.contains n then 987654321 :: n else n
mutual
def vecsOf : SV → List Name
 | .vsl n => [n]
 | .vpt n _ _ _ => [n]
 | .fn _ c => vecsOfL c
 | .agg c => vecsOfL c
 | .mix _ _ _ c => vecsOfL c
 | .tup c => vecsOfL c
 | .gd _ x => vecsOf x
 | _ => []
def vecsOfL : List SV → List Name
 | [] => []
 | x :: l => vecsOf x ++ vecsOfL l
end
def badVecs (ys : List Sy) : List Name := match ys with
 | [] => []
 | y :: _ =>
  let cols := (y.ts.map fun x => ys.map fun z => vecsOf (lkS x.1 z.ts)) ++ (y.bx.map fun x => ys.map fun z => vecsOf ((lookN x.1 z.bx).getD .dead))
  ((cols.flatMap fun col => (col.flatMap id).filter fun n => col.any fun c => !c.contains n).eraseDups).filter (commonC ys)
structure Join where
 ids : List Name
 cv : Cv
 y : Sy
 ps : List Ty
 as : List (List E)
def kindOf : SV → Nat × Option Ty × Name
 | .e t _ => (1, some t, [])
 | .own i _ t _ => (2, some (.sl t), i)
 | .nil => (3, none, [])
 | .agg _ => (4, none, [])
 | .mix t _ os _ => (6, some t, os)
 | .kd _ => (5, none, [])
 | _ => (0, none, [])
def convPlan {κ : Type} (f : κ → Sy → SV) (ys : List Sy) : List κ → List (κ × Ty)
 | [] => []
 | k :: l =>
  let ks := ys.map fun y => kindOf (f k y)
  match ks with
  | [] => convPlan f ys l
  | (n, w, i) :: rest => if n ≠ 0 ∧ rest.any (fun r => r.1 ≠ n || r.2.2 ≠ i) && ks.all (fun r => r.1 ≠ 0) then (match ks.findSome? (fun r => if r.1 = 1 then r.2.1 else none), ks.findSome? (fun r => r.2.1) with
    | some w, _ => (k, w) :: convPlan f ys l
    | none, some w => (k, w) :: convPlan f ys l
    | none, none => convPlan f ys l)
   else convPlan f ys l
def joinY (g0 : List Ty) (ys : List Sy) : Option Join :=
 match ys with
 | [] => none
 | y :: rest =>
  let common := rest.foldl (fun a z => interN a z.ow) y.ow
  let ids := (ys.flatMap fun z => z.ow.filter fun i => !common.contains i).eraseDups ++ unlikeC ys common ++ (badVecs ys).map fun n => if common.contains n then 987654321 :: n else n
  let zs0 := ys.map (stripAll ids)
  let cv := (convPlan (fun t (y : Sy) => lkS t y.ts) zs0 (match zs0 with | z :: _ => z.ts.map (·.1) | [] => []), convPlan (fun n (y : Sy) => (lookN n y.bx).getD .dead) zs0 (match zs0 with | z :: _ => z.bx.map (·.1) | [] => []))
  let zs := zs0.map (convY cv)
  match zs with
  | [] => none
  | z :: _ =>
   let (ts, p1) := joinTs g0.length zs z.ts []
   let (bx, p2) := joinBs g0.length zs z.bx p1
   let (vc, p3) := joinCs g0.length zs z.vc p2
   let ps := p3.map (·.1)
   some ⟨ids, cv, { z with g := g0 ++ ps, ts := ts, bx := bx, ow := common, vc := vc }, ps, (List.range ys.length).map fun i => p3.map fun p => p.2.getD i (.var 0)⟩
def sameLf (a b : Leaf) : Bool := sameEx a.e b.e && lpB a.s.lp b.s.lp
def classes : List Leaf → List Leaf → List Leaf
 | [], acc => acc.reverse
 | x :: l, acc => if acc.any (sameLf x) then classes l acc else classes l (x :: acc)
def mergeOne (g0 : List Ty) (force : Bool) (rep : Leaf) (r : Res) : Option Res :=
 let mem := r.L.filter fun x => sameLf x rep
 if !force && (mem.length ≤ 1 : Bool) then some r
 else match joinY g0 (mem.map (·.s)) with
  | some j => if j.y.g = g0 ++ j.ps then (match glue g0.length j.ids j.cv j.y j.ps rep j.as r.t r.L with
   | some (t, L) => some { r with t := t, L := L }
   | none => none) else none
  | none => none
def mergeAll (g0 : List Ty) (force : Bool) (r : Res) : Option Res :=
 (classes r.L []).foldl (fun (acc : Option Res) (rep : Leaf) => match acc with | some r => mergeOne g0 force rep r | none => none) (some r)
structure Lv where
 n : List Nat
 ex : List (Nat × List Nat)
 r : List Nat
inductive LC where
 | nil | seq (lb : List Nat) (a b : LC) | two (a b : LC) | loop (l : List Nat) (b : LC)
 deriving Inhabited
def memN (t : Nat) : List Nat → Bool
 | [] => false
 | a :: l => if Nat.beq a t then true else memN t l
def addN (t : Nat) (l : List Nat) : List Nat := if memN t l then l else t :: l
def uniN : List Nat → List Nat → List Nat
 | [], l => l
 | t :: k, l => addN t (uniN k l)
def lookL (i : Nat) : List (Nat × List Nat) → List Nat
 | [] => []
 | (a, l) :: k => if Nat.beq a i then l else lookL i k
def lvAt (lv : Lv) : Ex → List Nat
 | .norm => lv.n
 | .exit i => lookL i lv.ex
 | .ret => lv.r
def opdN : Operand → List Nat → List Nat
 | .tmp t, l => addN t l
 | _, l => l
def opdsN : List Operand → List Nat → List Nat
 | [], l => l
 | o :: os, l => opdN o (opdsN os l)
def opsN (all : Array Oper) : List Oper → List Nat → List Nat
 | [], l => l
 | o :: os, l =>
  let after := opsN all os l
  let cut := match o.dst with | some d => after.filter fun t => !Nat.beq t d | none => after
  opdsN o.op.operands.toList (match o.guard with
   | some (j, _) => (match (all[j]?).bind (·.dst) with | some t => addN t cut | none => cut)
   | none => cut)
def readsN : Code → List Nat → List Nat
 | .region _ ops _, l => ops.toList.foldr (fun o l => opdsN o.op.operands.toList l) l
 | .seq a b, l => readsN a (readsN b l)
 | .cond c a b, l => opdN c (readsN a (readsN b l))
 | .block _ b, l => readsN b l
 | .loop b, l => readsN b l
 | .rangeFunc g _ a b, l => opdN g (readsN a (readsN b l))
 | _, l => l
def annot : Code → Lv → List Nat × LC
 | .region _ ops _, lv => (opsN ops ops.toList lv.n, .nil)
 | .seq a b, lv => match annot b lv with
  | (lb, B) => match annot a { lv with n := lb } with
   | (la, A) => (la, .seq lb A B)
 | .cond c a b, lv => match annot a lv, annot b lv with
  | (la, A), (lb, B) => (opdN c (uniN la lb), .two A B)
 | .block id b, lv => match annot b { lv with ex := (id, lv.n) :: lv.ex } with
  | (l, B) => (l, .two B .nil)
 | .loop b, lv => match annot b { lv with n := [] } with
  | (l, _) => match annot b { lv with n := l } with
   | (_, B) => (l, .loop l B)
 | .rangeFunc g _ a b, lv => (opdN g (readsN a (readsN b (uniN lv.n (uniN lv.r (lv.ex.foldr (fun x l => uniN x.2 l) []))))), .nil)
 | .exit i, lv => (lookL i lv.ex, .nil)
 | .ret, lv => (lv.r, .nil)
 | _, lv => (lv.n, .nil)
def resN : List ResultVar → List Nat
 | [] => []
 | .tmp t :: rs => addN t (resN rs)
 | .cell a _ :: rs => addN a (resN rs)
def lv0 : Lv := ⟨[], [], []⟩
def lvF (rs : List ResultVar) : Lv := ⟨resN rs, [], resN rs⟩
def LC.a : LC → LC
 | .seq _ a _ => a
 | .two a _ => a
 | .loop _ b => b
 | .nil => .nil
def LC.b : LC → LC
 | .seq _ _ b => b
 | .two _ b => b
 | _ => .nil
def LC.l : LC → List Nat
 | .seq l _ _ => l
 | .loop l _ => l
 | _ => []
def keepTs (kp : List Nat) (y : Sy) : Sy := { y with ts := y.ts.filter fun x => memN x.1 kp }
def keepR (lv : Lv) (r : Res) : Res := { r with L := r.L.map fun lf => { lf with s := keepTs (lvAt lv lf.e) lf.s } }
def binds : Bs → T → T
 | [], t => t
 | b :: bs, t => .bind b.1 b.2 (binds bs t)
def shiftT (k n : Nat) (t : T) : T := t.sub fun i => if i < n then .hole (i + k) else .fail
def contL (f : Leaf → Nat → Option Res) : List Leaf → Nat → Nat → Option (List T × List Leaf × Nat × Log)
 | [], _, c => some ([], [], c, [])
 | lf :: L, off, c => match f lf c with
  | some r => match contL f L (off + r.L.length) r.c with
   | some (ts, Ls, c2, lg) => some ((if off = 0 ∧ L.isEmpty = true then r.t else shiftT off r.L.length r.t) :: ts, r.L ++ Ls, c2, r.log ++ lg)
   | none => none
  | none => none
def thenL (r : Res) (f : Leaf → Nat → Option Res) : Option Res :=
 match contL f r.L 0 r.c with
 | some (ts, Ls, c, lg) => some ⟨r.t.sub (fun i => ts.getD i .fail), Ls, c, r.log ++ lg⟩
 | none => none
def mapL (f : Leaf → Leaf) (r : Res) : Res := { r with L := r.L.map f }
def one (e : Ex) (v : SV) (y : Sy) (c : Nat) : Res := ⟨.hole 0, [⟨e, v, y⟩], c, []⟩
def param1 (n0 : Nat) (z : SV) (ps : Ps) : SV × Ps := match z with
 | .e (.cst c) x => (.e (.cst c) x, ps)
 | .e t x => (.e t (.var (n0 + ps.length)), ps ++ [(t, [x])])
 | .own i sz t x => (.own i sz t (.var (n0 + ps.length)), ps ++ [(.sl t, [x])])
 | .mpc k t x => (.mpc k t (.var (n0 + ps.length)), ps ++ [(.mp k t, [x])])
 | z => (z, ps)
def paramL (n0 : Nat) : List SV → Ps → List SV × Ps
 | [], ps => ([], ps)
 | z :: l, ps => match param1 n0 z ps with
  | (z1, ps1) => match paramL n0 l ps1 with
   | (r, ps2) => (z1 :: r, ps2)
def paramV (n0 : Nat) (z : SV) (ps : Ps) : SV × Ps := match z with
 | .agg cs => match paramL n0 cs ps with | (ds, ps1) => (.agg ds, ps1)
 | .mix t x os cs => match paramL n0 cs (ps ++ [(t, [x])]) with | (ds, ps1) => (.mix t (.var (n0 + ps.length)) os ds, ps1)
 | z => param1 n0 z ps
def paramK {κ : Type} (n0 : Nat) (ch : κ → Bool) : List (κ × SV) → Ps → List (κ × SV) × Ps
 | [], ps => ([], ps)
 | (t, z) :: l, ps => match (if ch t then paramV n0 z ps else (z, ps)) with
  | (z1, ps1) => match paramK n0 ch l ps1 with
   | (r, ps2) => ((t, z1) :: r, ps2)
def paramC (n0 : Nat) (ch : Name → Bool) : List (Name × Ty × E) → Ps → List (Name × Ty × E) × Ps
 | [], ps => ([], ps)
 | (n, t, x) :: l, ps => if ch n then (match paramC n0 ch l (ps ++ [(.sl t, [x])]) with | (r, ps2) => ((n, t, .var (n0 + ps.length)) :: r, ps2))
  else (match paramC n0 ch l ps with | (r, ps2) => ((n, t, x) :: r, ps2))
def headY (g0 : List Ty) (h : Option Hint) (y : Sy) : Sy × List Ty × List E :=
 let (ts, p1) := paramK g0.length (fun t => match h with | some h => h.1.contains t | none => true) y.ts []
 let (bx, p2) := paramK g0.length (fun n => match h with | some h => h.2.1.contains n | none => true) y.bx p1
 let (vc, p3) := paramC g0.length (fun n => match h with | some h => h.2.1.contains n | none => true) y.vc p2
 ({ y with g := g0 ++ p3.map (·.1), ts := ts, bx := bx, vc := vc }, p3.map (·.1), p3.map fun p => p.2.headD (.var 0))
def hIds : Option Hint → List Name
 | some h => h.2.2.1
 | none => []
def hCv : Option Hint → Cv
 | some h => h.2.2.2
 | none => ([], [])
def matchV : SV → SV → List (Nat × E)
 | .e _ (.var i), .e _ x => [(i, x)]
 | .own _ _ _ (.var i), .own _ _ _ x => [(i, x)]
 | .mpc _ _ (.var i), .mpc _ _ x => [(i, x)]
 | .agg cs, .agg ds => (cs.zip ds).flatMap fun z => match z with
  | (.e _ (.var i), .e _ x) => [(i, x)]
  | (.own _ _ _ (.var i), .own _ _ _ x) => [(i, x)]
  | _ => []
 | .mix _ (.var i) _ cs, .mix _ x _ ds => (i, x) :: (cs.zip ds).flatMap fun z => match z with
  | (.e _ (.var i), .e _ x) => [(i, x)]
  | (.own _ _ _ (.var i), .own _ _ _ x) => [(i, x)]
  | _ => []
 | _, _ => []
def lookE (i : Nat) : List (Nat × E) → E
 | [] => .var i
 | (j, x) :: l => if Nat.beq i j then x else lookE i l
def argsFor (n0 np : Nat) (yJ y : Sy) : List E :=
 let m := (yJ.ts.flatMap fun x => matchV x.2 (lkS x.1 y.ts)) ++ (yJ.bx.flatMap fun x => match lookN x.1 y.bx with | some z => matchV x.2 z | none => []) ++ (yJ.vc.flatMap fun x => match x.2.2, lookN x.1 y.vc with | .var i, some (_, e) => [(i, e)] | _, _ => [])
 (List.range np).map fun k => lookE (n0 + k) m
def changedOf (h : Option Hint) (yJ : Sy) (ys : List Sy) : Hint :=
 let cv : Cv := (convPlan (fun t (y : Sy) => lkS t y.ts) (yJ :: ys) (yJ.ts.map (·.1)), convPlan (fun n (y : Sy) => (lookN n y.bx).getD .dead) (yJ :: ys) (yJ.bx.map (·.1)))
 ((yJ.ts.filter fun x => ys.any fun y => !(lkS x.1 y.ts).same x.2).map (·.1), (yJ.bx.filter fun x => ys.any fun y => match lookN x.1 y.bx with | some z => !z.same x.2 | none => true).map (·.1) ++ (yJ.vc.filter fun x => ys.any fun y => match lookN x.1 y.vc with | some (_, e) => !e.same x.2.2 | none => true).map (·.1),
  hIds h ++ (yJ.ow.filter fun i => ys.any fun y => !y.ow.contains i) ++ ((yJ.vc.filter fun x => ys.any fun y => (lookN x.1 y.vc).isNone).map fun x => 987654321 :: x.1), ((hCv h).1 ++ cv.1, (hCv h).2 ++ cv.2))
def isNorm : Ex → Bool
 | .norm => true
 | _ => false
def loopR (g0 : List Ty) (hh : Option Hint) (yL : Sy) (ps : List Ty) (init : List E) (c0 : Nat) (r : Res) : Option Res :=
 match sigma g0.length (hIds hh) (hCv hh) yL ⟨.norm, .dead, yL⟩ r.L (((r.L.filter fun lf => isNorm lf.e).map fun lf => prepY (hIds hh) (hCv hh) lf.s).map fun y => argsFor g0.length ps.length yL y) 0 with
 | some (ts, os) => if os.all (fun lf => !isNorm lf.e) = true then mergeAll g0 true ⟨.loop ps init ((r.t.lift 0).sub fun i => ts.getD i .fail), os, r.c, (c0, changedOf hh yL ((r.L.filter fun lf => isNorm lf.e).map (·.s))) :: r.log⟩ else none
 | none => mergeAll g0 true ⟨.fail, r.L.filter fun lf => !isNorm lf.e, r.c, (c0, changedOf hh yL ((r.L.filter fun lf => isNorm lf.e).map (·.s))) :: r.log⟩
def argS : Nat → List SV → List (Nat × SV)
 | _, [] => []
 | i, v :: vs => (i, v) :: argS (i + 1) vs
def Sy.push (y : Sy) (n : Nat) (args : List SV) : Sy := { y with rd := none, n := n, ts := argS 0 args, sv := ⟨y.rd, y.n, y.ts⟩ :: y.sv }
def Sy.pop (y : Sy) : Sy := match y.sv with
 | f :: fs => { y with rd := f.rd, n := f.n, ts := f.ts, sv := fs }
 | [] => y
def Sy.loopIn (y : Sy) (l : Name) (nt : Nat) (args : List SV) (q : Lp) : Sy := { y with rd := none, n := nt, ts := argS 0 args, sv := ⟨some l, y.n, y.ts⟩ :: y.sv, lp := (l, q) :: y.lp }
def Sy.loopOut (y : Sy) : Sy := match y.sv with
 | f :: fs => { y with rd := none, n := f.n, ts := f.ts, sv := fs, lp := y.lp.tail }
 | [] => y
def Sy.loopOutR (y : Sy) (r : Option Name) : Sy := match y.sv with
 | f :: fs => { y with rd := r, n := f.n, ts := f.ts, sv := fs, lp := y.lp.tail }
 | [] => y
def rdOKS (y : Sy) : Bool := match y.rd with
 | none => true
 | some l => (lookN l y.lp).isSome && (y.sv.map (·.rd)).contains (some l)
def Sy.setLp (y : Sy) (l : Name) (q : Lp) : Sy := { y with lp := Ab.setN l q y.lp }
def setAllS : List Nat → List SV → List (Nat × SV) → List (Nat × SV)
 | t :: ts, v :: vs, l => setAllS ts vs (setS t v l)
 | _, _, l => l
def framesS (y : Sy) : List SFr := ⟨y.rd, y.n, y.ts⟩ :: y.sv
def Sy.round (y : Sy) (l : Name) (f : SFr) (ps : List Nat) (args : List SV) : Sy := { y with rd := some l, n := f.n, ts := setAllS ps args f.ts, sv := ⟨y.rd, y.n, y.ts⟩ :: y.sv }
def rdsS (y : Sy) : List (Option Name) := y.rd :: y.sv.map (·.rd)
def resV (P : Program) (y : Sy) : List ResultVar → Option (List SV)
 | [] => some []
 | .tmp t :: rs => (resV P y rs).map fun vs => lkS t y.ts :: vs
 | .cell a t :: rs => match tagg P t with
  | some ag => if ag = true ∨ tsz P t ≠ 0 then (match lkS a y.ts with
   | .ptr nm off => match lookN nm y.bx with
    | some c => match loadC ag (tyD P t) off (tsz P t) c with
     | some z => (resV P y rs).map fun vs => z :: vs
     | none => none
    | none => none
   | _ => none) else none
  | none => none
def mkResS : List SV → SV
 | [v] => v
 | vs => .tup vs
def isExit' : Ex → Bool
 | .exit _ => true
 | _ => false
def endL (r : Res) : Option Res := if r.L.any (fun lf => isExit' lf.e) then none else some (mapL (fun lf => { lf with e := .ret }) r)
def goesOn' : Ex → Bool
 | .norm => true
 | _ => false
def ownerOf' : Name → FuncId
 | [_, f] => f
 | _ => 0
def notNilS : SV → Bool
 | .nil => false
 | .gd _ x => notNilS x
 | _ => true
def notNilO : Option SV → Bool
 | some z => notNilS z
 | none => false
def nilOKS (y : Sy) : Op → Bool
 | .binOp _ _ _ z _ => notNilO (y.get z)
 | .assign x => notNilO (y.get x)
 | _ => true
def segS (C : Cx) (p : Name) (all : Array Oper) : List Nat → Sy → Option (Bs × Sy)
 | [], y => some ([], y)
 | i :: l, y => match all[i]? with
  | some o => if nilOKS y o.op = true then (match oneOp C.P C.tb p all y o with
   | some (bs, y1) => match segS C p all l y1 with
    | some (bs2, y2) => some (bs ++ bs2, y2)
    | none => none
   | none => none) else none
  | none => none
def makeS (C : Cx) (p : Name) (all : Array Oper) (g : List Nat) (j : Nat) (y : Sy) : Option (Bs × Sy) :=
 match (all[j]?).bind callOf with
 | some (t, fv, as) => if y.free (t :: p) = true then (match segS C p all g y with
  | some (bs, y1) => if y1.free (t :: p) = true ∧ t < y1.n then (match y1.get fv, getAll y1.get as with
   | some (.e (.cst (.fnc h)) _), some [z] => if callable C.P h = true then (match C.sp h with
    | some (.clo ts te) => match asS (tyD C.P ts) z with
     | some (w, ye) => if w.size = tsz C.P te ∧ tbytes C.P te ≠ 0 then some (bs ++ [(.r2 (.app (tbytes C.P te)) (.zero (.sl w)) ye, .sl w)], (y1.vturn (t :: p) w).put (some t) (.vsl (t :: p))) else none
     | none => none
    | _ => none) else none
   | _, _ => none) else none
  | none => none) else none
 | none => none
structure SEff where
 i : Nat
 z : SV
 w : List (Name × SV)
def hideY (H : List Name) (y : Sy) : Sy := { y with bx := y.bx.filter fun x => !H.contains x.1 }
def lkDS (d : Option Tmp) (y : Sy) : SV := match d with | some t => lkS t y.ts | none => .dead
def consE (bs : Bs) (e : SEff) : Option (Bs × List SEff × Sy) → Option (Bs × List SEff × Sy)
 | some (bs2, L, y) => some (bs ++ bs2, e :: L, y)
 | none => none
def mixS (C : Cx) (p : Name) (all : Array Oper) (H : Nat → List Name) : List Nat → Sy → Option (Bs × List SEff × Sy)
 | [], y => some ([], [], y)
 | i :: rest, y => match all[i]? with
  | some o => match o.op with
   | .alloc ty => match o.dst, o.guard with
    | some t, none => match zeroSV C.P ty with
     | some z => if t < y.n ∧ (H i).contains (t :: p) = false ∧ notNilS z = true ∧ sizeS z = some (tsz C.P ty) ∧ isNone' (lookN (t :: p) y.bx) = true then
       consE [] ⟨i, .ptr (t :: p) 0, [(t :: p, z)]⟩ (mixS C p all H rest (({ y with bx := (t :: p, z) :: y.bx } : Sy).put (some t) (.ptr (t :: p) 0))) else none
     | none => none
    | _, _ => none
   | .store ty x v => match o.dst, o.guard, y.get x, y.get v with
    | none, none, some (.ptr nm off), some zv => match lookN nm y.bx, storeC off (coeS (tyD C.P ty) zv) ((lookN nm y.bx).getD .dead) with
     | some _, some c' => if (H i).contains nm = false ∧ notNilS zv = true ∧ tsz C.P ty ≠ 0 ∧ sizeS (coeS (tyD C.P ty) zv) = some (tsz C.P ty) then
       consE [] ⟨i, .dead, [(nm, c')]⟩ (mixS C p all H rest { y with bx := (nm, c') :: y.bx }) else none
     | _, _ => none
    | _, _, _, _ => none
   | _ => if calm o.op = true ∧ o.dst.isSome = true ∧ nilOKS y o.op = true then (match oneOp C.P C.tb p all (hideY (H i) y) o with
     | some (bs, y1) => consE bs ⟨i, lkDS o.dst y1, []⟩ (mixS C p all H rest { y1 with bx := y.bx })
     | none => none) else none
  | none => none
def preL (all : Array Oper) : List Nat → List (Nat × List Nat) → List (Nat × List Nat)
 | [], acc => acc
 | i :: rest, acc => preL all rest ((i, (aftOf all i).foldl (fun l q => uniN (lookL q acc) l) (aftOf all i)) :: acc)
def hOf (pre : Nat → List Nat) (L : List SEff) (i : Nat) : List Name := L.flatMap fun e => if unordB pre i e.i then e.w.map (·.1) else []
def mixCB (all : Array Oper) (p : Name) (pre : Nat → List Nat) (H : Nat → List Name) (y0 : Sy) (L : List SEff) : Bool :=
 L.all (fun e => L.all fun x => !unordB pre e.i x.i || x.w.all fun y => (H e.i).contains y.1 && e.w.all fun z => !decide (z.1 = y.1)) &&
 L.all (fun e => (frOf all p e.i).all fun nm => !y0.refs nm && L.all fun x => Nat.beq e.i x.i || ((pre x.i).contains e.i || (!x.z.refs nm && x.w.all fun y => !y.2.refs nm)))
def ddN {α : Type} : List (Name × α) → List (Name × α)
 | [] => []
 | x :: l => x :: (ddN l).filter fun y => !decide (y.1 = x.1)
def mixR (C : Cx) (p : Name) (all : Array Oper) (ord : List Nat) (y : Sy) (c : Nat) : Option Res :=
 let pl := preL all ord []
 let pre := fun i => lookL i pl
 if mixOK all pre ord = true then (match mixS C p all (fun _ => []) ord y with
  | some (_, L0, _) => match mixS C p all (hOf pre L0) ord y with
   | some (bs, L, y1) => if mixCB all p pre (hOf pre L0) y L = true then some ⟨binds bs (.hole 0), [⟨.norm, .dead, { y1 with bx := ddN y1.bx }⟩], c, []⟩ else none
   | none => none
  | none => none) else none
inductive Task where
 | code (f : FuncId) (c : Code) (lc : LC) (lv : Lv)
 | ops (f : FuncId) (all : Array Oper) (l : List Oper)
 | plan (f : FuncId) (all : Array Oper) (l : List Seg)
 | call (g : FuncId) (args : List SV)
 | yld (l : Name) (args : List SV)
def lpD' (l : List (Name × Lp)) : List (Name × Nat) := l.map fun x => (x.1, x.2.depth)
def openY (g : E) (y : Sy) : Sy := { y with ts := y.ts.map fun x => (x.1, reduceG [g] x.2) }
def shutV (g : E) (z : SV) : SV := match z with
 | .gd gs x => if gs.any (fun h => h.same g) then .tup [] else .gd gs x
 | z => z
def shutY (g : E) (y : Sy) : Sy := { y with ts := y.ts.map fun x => (x.1, shutV g x.2) }
def callOp (C : Cx) (rec : Name → Task → Sy → Nat → Option Res) (p : Name) (f : FuncId) (all : Array Oper) (rest : List Oper) (o : Oper) (y : Sy) (c : Nat) : Option Res :=
 match o.op with
 | .call cl => match cl.callee with
  | .value fv => match y.get fv, getAll y.get cl.args.toList with
   | some z, some args =>
    let p' := o.dst.getD 0 :: p
    match (match z with
     | .e (.cst (.fnc g)) _ => if callable C.P g = true then rec p' (.call g args) y c else none
     | .fn g cap => if callable C.P g = true then rec p' (.call g (args ++ cap)) y c else none
     | .yld l => rec p' (.yld l args) y c
     | _ => none) with
    | some r => thenL r fun lf c => if dstOK lf.s.n o.dst = true then rec p (.ops f all rest) (lf.s.put o.dst lf.v) c else none
    | none => none
   | _, _ => none
  | _ => none
 | _ => none
def cmp (C : Cx) : Nat → Name → Task → Sy → Nat → Option Res
 | 0, _, _, _, _ => none
 | n + 1, p, t, y, c => match t with
  | .code f cd lc lv => match cd with
   | .skip => some (one .norm .dead y c)
   | .exit i => some (one (.exit i) .dead y c)
   | .ret => some (one .ret .dead y c)
   | .region _ ops false => (cmp C n p (.ops f ops ops.toList) y c).map fun r => keepR lv (mapL (fun lf => { lf with e := .norm }) r)
   | .region id ops true => if planOK ops [] (C.pl f id) = true then (cmp C n p (.plan f ops (C.pl f id)) y c).map fun r => keepR lv (mapL (fun lf => { lf with e := .norm }) r) else (mixR C p ops (flat (C.pl f id)) y c).map fun r => keepR lv r
   | .seq a b => match cmp C n p (.code f a lc.a { lv with n := lc.l }) y c with
    | some r => thenL r fun lf c => match lf.e with
     | .norm => cmp C n p (.code f b lc.b lv) lf.s c
     | e => some (one e .dead lf.s c)
    | none => none
   | .cond cd a b => match y.get cd with
    | some (.e .bool (.bool true)) => cmp C n p (.code f a lc.a lv) y c
    | some (.e .bool (.bool false)) => cmp C n p (.code f b lc.b lv) y c
    | some (.e .bool x) => match cmp C n p (.code f a lc.a lv) y c with
     | some r1 => match cmp C n p (.code f b lc.b lv) y r1.c with
      | some r2 => mergeAll y.g false <| keepR lv ⟨.ite x (shiftT 0 r1.L.length r1.t) (shiftT r1.L.length r2.L.length r2.t), r1.L ++ r2.L, r2.c, r1.log ++ r2.log⟩
      | none => none
     | none => none
    | _ => none
   | .block id b => match cmp C n p (.code f b lc.a { lv with ex := (id, lv.n) :: lv.ex }) y c with
    | some r => mergeAll y.g false <| keepR lv (mapL (fun lf => match lf.e with | .exit i => if i = id then { lf with e := .norm } else lf | _ => lf) r)
    | none => none
   | .loop b => match headY y.g (C.hl c) (keepTs lc.l (prepY (hIds (C.hl c)) (hCv (C.hl c)) y)) with
    | (yL, ps, init) => if fitsY y.g.length init (prepY (hIds (C.hl c)) (hCv (C.hl c)) y) yL = true ∧ yL.g = y.g ++ ps then (match cmp C n p (.code f b lc.a { lv with n := lc.l }) yL (c + 1) with
     | some r => loopR y.g (C.hl c) yL ps init c (keepR { lv with n := lc.l } r)
     | none => none) else none
   | .rangeFunc g ps a b => match y.get g with
    | some (.fn gf cap) =>
     let l := [c, f]
     if rdOKS y && !(rdsS y).contains (some l) && (lookN l y.lp).isNone && !y.ylds l && !SV.yldsL l cap && callable C.P gf then (match C.P.funcs[gf]? with
      | some fn => match fn.body with
       | some cb => if (SV.yld l :: cap).length ≤ fn.ntmps ∧ fn.results = #[] then (match cmp C n [c] (.code gf cb (annot cb lv0).2 lv0) (y.loopIn l fn.ntmps (.yld l :: cap) ⟨y.sv.length, ps, a, b, none⟩) (c + 1) with
        | some r => match endL r with
         | some r => match mergeAll y.g false r with
          | some r => (thenL r fun lf c => if lf.s.sv.length = y.sv.length + 1 ∧ lpD' lf.s.lp = (l, y.sv.length) :: lpD' y.lp then (match lf.s.lp with
           | (_, q) :: _ => match q.pending with
            | none => some (one .norm .dead (lf.s.loopOutR y.rd) c)
            | some (some (.exit i)) => some (one (.exit i) .dead (lf.s.loopOutR y.rd) c)
            | some (some .ret) => some (one .ret .dead (lf.s.loopOutR y.rd) c)
            | _ => none
           | [] => none) else none)
          | none => none
         | none => none
        | none => none) else none
       | none => none
      | none => none) else none
    | _ => none
   | _ => none
  | .ops f all l => match l with
   | [] => some (one .norm .dead y c)
   | o :: rest => match oneOp C.P C.tbo p all y o with
    | some (bs, y1) => (cmp C n p (.ops f all rest) y1 c).map fun r => { r with t := binds bs r.t }
    | none => if dstOK y.n o.dst = true then (match o.guard with
     | none => callOp C (cmp C n) p f all rest o y c
     | some (j, want) => match (all[j]?).bind (·.dst) with
      | some t => match lkS t y.ts with
       | .e .bool (.bool b) => if b = want then callOp C (cmp C n) p f all rest o y c else none
       | .e .bool x => match callOp C (cmp C n) p f all rest o (openY (if want then x else .p1 .not x) { y with ts := setS t (.e .bool (.bool want)) y.ts }) c with
        | some r1 => match cmp C n p (.ops f all rest) ((shutY (if want then x else .p1 .not x) { y with ts := setS t (.e .bool (.bool !want)) y.ts }).put o.dst (.tup [])) r1.c with
         | some r2 => some ⟨if want then .ite x (shiftT 0 r1.L.length r1.t) (shiftT r1.L.length r2.L.length r2.t) else .ite x (shiftT r1.L.length r2.L.length r2.t) (shiftT 0 r1.L.length r1.t), r1.L ++ r2.L, r2.c, r1.log ++ r2.log⟩
         | none => none
        | none => none
       | _ => none
      | none => none) else none
  | .plan f all l => match l with
   | [] => some (one .norm .dead y c)
   | .calm g :: rest => match segS C p all g y with
    | some (bs, y1) => (cmp C n p (.plan f all rest) y1 c).map fun r => { r with t := binds bs r.t }
    | none => none
   | .bar i :: rest => match all[i]? with
    | some o => match cmp C n p (.ops f all [o]) y c with
     | some r => thenL r fun lf c => cmp C n p (.plan f all rest) lf.s c
     | none => none
    | none => none
   | .make g j :: rest => match makeS C p all g j y with
    | some (bs, y1) => (cmp C n p (.plan f all rest) y1 c).map fun r => { r with t := binds bs r.t }
    | none => none
   | .fresh g i j :: rest => match all[i]?, all[j]? with
    | some oi, some oj => match oi.dst, oi.op, oj.op with
     | some t, .alloc ty, .store _ _ x => if y.refs (t :: p) = false ∧ (tzero C.P ty).notNil = true then (match segS C p all g y with
      | some (bs, y1) => if notNilO (y1.get x) = true then (match oneOp C.P C.tb p all y1 oi with
       | some (bs2, y2) => match oneOp C.P C.tb p all y2 oj with
        | some (bs3, y3) => (cmp C n p (.plan f all rest) y3 c).map fun r => { r with t := binds (bs ++ (bs2 ++ bs3)) r.t }
        | none => none
       | none => none) else none
      | none => none) else none
     | _, _, _ => none
    | _, _ => none
  | .call g args => match quick C p g args y with
   | some (bs, y1, z1) => some ⟨binds bs (.hole 0), [⟨.norm, z1, y1⟩], c, []⟩
   | none => match softAt C g args y with
   | some (i, u, q) => cmp C n p (.call g (SV.softL i u q args)) (y.soft i) c
   | none => match C.P.funcs[g]? with
   | some fn => match fn.body with
    | some cb => if args.length ≤ fn.ntmps then (match cmp C n [c] (.code g cb (annot cb (lvF fn.results.toList)).2 (lvF fn.results.toList)) (y.push fn.ntmps args) (c + 1) with
     | some r => match endL r with
      | some r => match mergeAll y.g false r with
       | some r => thenL r fun lf c => if lf.s.sv.length = y.sv.length + 1 ∧ lpD' lf.s.lp = lpD' y.lp then (match resV C.P lf.s fn.results.toList with
        | some vs => some (one .norm (mkResS vs) lf.s.pop c)
        | none => none) else none
       | none => none
      | none => none
     | none => none) else none
    | none => none
   | none => none
  | .yld l args => match lookN l y.lp with
   | some q => match (framesS y).reverse[q.depth]? with
    | some f => if q.ps.toList.all (fun t => decide (t < f.n)) = true ∧ args.length = q.ps.size then (match cmp C n [c] (.code (ownerOf' l) q.assign (annot q.assign ⟨readsN q.body [], [], []⟩).2 ⟨readsN q.body [], [], []⟩) (y.round l f q.ps.toList args) (c + 1) with
     | some r1 => thenL r1 fun lf c => match lf.e with
      | .norm => match lookN l lf.s.lp with
       | some q1 => if q1.pending.isNone then (match cmp C n [c] (.code (ownerOf' l) q.body (annot q.body lv0).2 lv0) (lf.s.setLp l { q1 with pending := some none }) (c + 1) with
        | some r2 => match mergeAll lf.s.g false r2 with
         | some r2 => thenL r2 fun lf c => if lf.s.sv.length = y.sv.length + 1 ∧ lpD' lf.s.lp = lpD' y.lp then (match lookN l lf.s.lp with
          | some q2 => some (one .norm (.e .bool (.bool (goesOn' lf.e))) (lf.s.setLp l { q2 with pending := jmp lf.e }).pop c)
          | none => none) else none
         | none => none
        | none => none) else none
       | none => none
      | _ => none
     | none => none) else none
    | none => none
   | none => none
def outE (P : Program) (ts : List TypeId) : List SV → Option (List (Ty × E))
 | [] => match ts with | [] => some [] | _ => none
 | z :: zs => match ts with
  | t :: ts => match asE (tyD P t) z, outE P ts zs with
   | some r, some rs => match r.1.ag with
    | some _ => some (r :: rs)
    | none => none
   | _, _ => none
  | [] => none
def tupE : List (Ty × E) → Ty × E
 | [] => (.unit, .zero .unit)
 | [r] => r
 | r :: rs => match tupE rs with | (t, x) => (.prod r.1 t, .p2 .pair r.2 x)
def varsE : Nat → List Ty → List SV
 | _, [] => []
 | i, t :: ts => .e t (.var i) :: varsE (i + 1) ts
def startY (as : List Ty) (nt : Nat) : Sy := { g := as, rd := none, n := nt, ts := argS 0 (varsE 0 as), sv := [], bx := [], lp := [], ow := [], vc := [] }
def softLf (lf : Leaf) : Leaf := { lf with s := softAll (lf.s.vc.map (·.1)) lf.s }
def outT (P : Program) (rs : List ResultVar) (rt : List TypeId) (rty : Ty) : List Leaf → Option (List T)
 | [] => some []
 | lf :: L => match resV P lf.s rs with
  | some vs => match outE P rt vs with
   | some es => match tupE es with
    | (t, x) => if t = rty then (outT P rs rt rty L).map fun ts => .jump 0 [x] :: ts else none
   | none => none
  | none => none
def cmpF (C : Cx) (fuel : Nat) (g : FuncId) (as : List Ty) (rty : Ty) : Option (T × Log) :=
 match C.P.funcs[g]? with
 | some fn => match fn.body with
  | some cb => if as.length ≤ fn.ntmps ∧ as.all Ty.noMp = true then (match cmp C fuel [0] (.code g cb (annot cb (lvF fn.results.toList)).2 (lvF fn.results.toList)) (startY as fn.ntmps) 1 with
   | some r => match endL r with
    | some r => match outT C.P fn.results.toList fn.resultTypes.toList rty (r.L.map softLf) with
     | some ts => some ((r.t.lift 0).sub (fun i => ts.getD i .fail), r.log)
     | none => none
    | none => none
   | none => none) else none
  | none => none
 | none => none
end Go.Tx
