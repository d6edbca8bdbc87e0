import Derived.Test.YtleeccmcgophfaaGreatPM
import Derived.Test.YtleeccmcgophfaaGreatPL
import Derived.Test.YtleeccmcgophfaaGreatPJ
set_option linter.all false
namespace Go.Fn
set_option linter.unusedVariables false
open Go Go.Ab Go.Tx
def spanB (s : D2) : Bool:=(if (decide (s.1 ≤ s.2.1)) = true then (decide (s.2.1 ≤ (2305843009213693952 : Int))) else false)
structure ThrP (l : List D0) (t : D4) : Prop where
 labs : ∀ i,KeptL (t.2.2.2.2.2.2.2.2.2.2.1 i)
 wait : t.2.2.2.2.2.2.1 ≠ 1 → t.2.2.2.2.2.2.2.1 = Ty.zero t3
 clr : KeptL t.2.2.1
 leq : LeqP l t.2.2.1
 state : 0 ≤ t.2.2.2.2.2.2.1 ∧ t.2.2.2.2.2.2.1 ≤ 2
 alr : t.2.2.2.2.2.2.2.2.1.length ≤ 8
 span : spanB t.2.2.2.2.2.2.2.2.2.1 = true
theorem F99_iff (l : List D0) (t : D4) (hl : KeptL l) (h1 : t.2.2.1.length ≤ big) (h3 : ∀ i,(t.2.2.2.2.2.2.2.2.2.2.1 i).length ≤ big) : Def (F99 l t) fun b=>b = true ↔ ThrP l t:=by
 have k3:=eqK_iff (t:=.prod t2 (.prod (.int .u64) (.prod (.int .u64) (.prod .bool .unit)))) (by rfl) t.2.2.2.2.2.2.2.1 (Ty.zero t3 : D3)
 unfold F99
 simp only [letJ_eq,letV_eq]
 refine Def.times' (n:=4) (fun k=>∀ i : Fin 4,i.1 < k → KeptL (t.2.2.2.2.2.2.2.2.2.2.1 i)) (by omega) (fun i h=>absurd h (by omega)) (fun i h4 hi=>?_) (fun hi=>?_)
 ·rw [guard4' h4,aidx4 h4]
  simp only [Option.bind_some]
  refine Def.bind' (F94_iff _ (h3 _)) (fun v hv=>?_)
  refine Def.ite (fun hc=>.done (.ret ⟨fun h=>(by cases h),fun e=>?_⟩)) (fun hc=>.turn ⟨rfl,fun k hk=>?_⟩)
  ·have hv' : v = true:=hv.2 (e.labs _)
   rw [hv'] at hc; simp at hc
  ·have hv' : v = true:=by simpa using hc
   by_cases hki : k.1 < i
   ·exact hi k hki
   ·have : k = ⟨i,h4⟩:=Fin.ext (by simp only; omega)
    rw [this]; exact hv.1 hv'
 ·have hl4 : ∀ i,KeptL (t.2.2.2.2.2.2.2.2.2.2.1 i):=fun i=>hi i i.2
  refine Def.done (Def.ite (fun hc=>.ret ⟨fun h=>(by cases h),fun hp=>?_⟩) (fun hc=>?_))
  ·simp only [Bool.if_false_right,Bool.and_eq_true,decide_eq_true_eq,bne_iff_ne,ne_eq,Bool.not_eq_true',← Bool.not_eq_true,k3] at hc
   exact (hc.2 (hp.wait hc.1)).elim
  ·simp only [Bool.if_false_right,Bool.and_eq_true,decide_eq_true_eq,bne_iff_ne,ne_eq,Bool.not_eq_true',← Bool.not_eq_true,k3] at hc
   have hw : t.2.2.2.2.2.2.1 ≠ 1 → t.2.2.2.2.2.2.2.1 = Ty.zero t3:=fun h=>Classical.byContradiction fun h'=>hc ⟨h,h'⟩
   refine Def.bind' (F94_iff _ h1) (fun v2 q2=>?_)
   refine Def.bindI (fun v3=>v3 = true ↔ LeqP l t.2.2.1) (fun hc=>?_) (fun v3 q3 _=>?_)
   ·have hk:=q2.1 (by simpa using hc)
    exact F100_iff _ _ (by have:=hl.len; omega) (by have:=hk.len; omega) hl.fit hk.fit
   refine Def.bindI (fun v4=>v4 = spanB t.2.2.2.2.2.2.2.2.2.1) (fun _=>.ret rfl) (fun v4 q4 _=>.ret ⟨fun hr=>?_,fun hp=>?_⟩)
   ·simp only [Bool.if_false_right,Bool.and_eq_true,decide_eq_true_eq,Bool.and_true] at hr q3 q4
    obtain ⟨⟨⟨⟨⟨r2,r3⟩,r4⟩,r5⟩,r6⟩,r7⟩:=hr
    exact ⟨hl4,hw,q2.1 r2,(q3 r2).1 r3,⟨r4,r5⟩,by omega,by rw [← q4 ⟨⟨⟨⟨r2,r3⟩,r4⟩,r5⟩,r6⟩]; exact r7⟩
   ·have e2:=q2.2 hp.clr
    subst e2
    have e3:=(q3 (by simp)).2 hp.leq
    subst e3
    have hs:=hp.state
    have ha:=hp.alr
    simp only [Bool.if_false_right,Bool.and_eq_true,decide_eq_true_eq,Bool.and_true] at q4 ⊢
    have h8 : ((t.2.2.2.2.2.2.2.2.1.length : Nat) : Int) ≤ 8:=by omega
    have e4:=q4 (by simp [hs,h8])
    rw [hp.span] at e4
    simp [hs,h8,e4]
theorem F240_iff (o : D6) (hl : KeptL o.2.2.1) (h : OkO o) : Def (F240 o) fun b=>b = true ↔ ThrP o.2.2.1 (thr o) ∧ o.2.2.2.2.1 = false:=by
 have k3:=eqK_iff (t:=.prod t2 (.prod (.int .u64) (.prod (.int .u64) (.prod .bool .unit)))) (by rfl) (thr o).2.2.2.2.2.2.2.1 (Ty.zero t3 : D3)
 unfold F240
 simp only [letJ_eq,letV_eq]
 refine Def.times' (n:=4) (fun k=>∀ i : Fin 4,i.1 < k → KeptL ((thr o).2.2.2.2.2.2.2.2.2.2.1 i)) (by omega) (fun i h=>absurd h (by omega)) (fun i h4 hi=>?_) (fun hi=>?_)
 ·rw [aidx4 h4]
  simp only [Option.bind_some]
  refine Def.bind' (F187_iff _ (h.lbs _)) (fun v hv=>?_)
  refine Def.ite (fun hc=>.done (.ret ⟨fun h=>(by cases h),fun e=>?_⟩)) (fun hc=>.turn ⟨rfl,fun k hk=>?_⟩)
  ·have hv' : v = true:=hv.2 (e.1.labs _)
   rw [hv'] at hc; simp at hc
  ·have hv' : v = true:=by simpa using hc
   by_cases hki : k.1 < i
   ·exact hi k hki
   ·have : k = ⟨i,h4⟩:=Fin.ext (by simp only; omega)
    rw [this]; exact hv.1 hv'
 ·have hl4 : ∀ i,KeptL ((thr o).2.2.2.2.2.2.2.2.2.2.1 i):=fun i=>hi i i.2
  refine Def.done ?_
  refine Def.bindI (fun v2=>v2 = true ↔ KeptL (thr o).2.2.1) (fun _=>F187_iff _ h.clr) (fun v2 q2 _=>?_)
  refine Def.bindI (fun v3=>v3 = true ↔ LeqP o.2.2.1 (thr o).2.2.1) (fun hc=>?_) (fun v3 q3 _=>?_)
  ·simp only [Bool.if_false_right,Bool.and_eq_true,decide_eq_true_eq,Bool.and_true] at hc
   have hk:=(q2 (by simp only [Bool.if_false_right,Bool.and_eq_true,decide_eq_true_eq,Bool.and_true]; exact hc.1)).1 hc.2
   exact F241_iff _ _ (by have:=hl.len; omega) (by have:=hk.len; simp only [thr] at this; omega) hl.fit hk.fit
  refine Def.bindI (fun v4=>v4 = spanB (thr o).2.2.2.2.2.2.2.2.2.1) (fun _=>.ret rfl) (fun v4 q4 _=>.ret ⟨fun hr=>?_,fun hp=>?_⟩)
  ·simp only [Bool.if_false_right,Bool.if_true_left,Bool.and_eq_true,Bool.or_eq_true,decide_eq_true_eq,Bool.and_true,beq_iff_eq,k3,Bool.not_eq_true'] at hr q2 q3 q4
   obtain ⟨⟨⟨⟨⟨⟨rw',rs⟩,rf⟩,r2⟩,r3⟩,r5⟩,r6⟩:=hr
   have c2:=(q2 ⟨⟨rw',rs⟩,rf⟩).1 r2
   exact ⟨⟨hl4,fun hn=>rw'.resolve_left hn,c2,(q3 ⟨⟨⟨rw',rs⟩,rf⟩,r2⟩).1 r3,by have hs:=rs; simp only [thr]; omega,by simp only [thr]; omega,by rw [← q4 ⟨⟨⟨⟨⟨rw',rs⟩,rf⟩,r2⟩,r3⟩,r5⟩]; exact r6⟩,rf⟩
  ·obtain ⟨hp,hf⟩:=hp
   have hs:=hp.state
   have ha:=hp.alr
   have hw : (thr o).2.2.2.2.2.2.1 = 1 ∨ (thr o).2.2.2.2.2.2.2.1 = Ty.zero t3:=by
    by_cases e : (thr o).2.2.2.2.2.2.1 = 1
    ·exact .inl e
    ·exact .inr (hp.wait e)
   have hst : ((thr o).2.2.2.2.2.2.1 = 0 ∨ (thr o).2.2.2.2.2.2.1 = 1) ∨ (thr o).2.2.2.2.2.2.1 = 2:=by omega
   simp only [Bool.if_false_right,Bool.if_true_left,Bool.and_eq_true,Bool.or_eq_true,decide_eq_true_eq,Bool.and_true,beq_iff_eq,k3,Bool.not_eq_true'] at q2 q3 q4 ⊢
   have e2:=(q2 ⟨⟨hw,hst⟩,hf⟩).2 hp.clr
   subst e2
   have e3:=(q3 ⟨⟨⟨hw,hst⟩,hf⟩,rfl⟩).2 hp.leq
   subst e3
   have h8 : (((thr o).2.2.2.2.2.2.2.2.1.length : Nat) : Int) ≤ 8:=by omega
   have e4:=q4 ⟨⟨⟨⟨⟨hw,hst⟩,hf⟩,rfl⟩,rfl⟩,h8⟩
   rw [hp.span] at e4
   exact ⟨⟨⟨⟨⟨⟨hw,hst⟩,hf⟩,rfl⟩,rfl⟩,h8⟩,e4⟩
structure InnerP (o : D6) : Prop where
 seg : o.2.1 = 1 → ((dat o).length : Int) ≤ 16 * (quo o - 1)
 con : o.2.1 = 2 → (lnk o).length ≤ 64 ∧ RisP (lnk o)
 spa : o.2.1 = 3 → PagP o.2.2.2.2.2.2.2.1
 thr : o.2.1 = 4 → ThrP o.2.2.1 (thr o) ∧ o.2.2.2.2.1 = false
 gat : o.2.1 = 5 → KeptL (gat o).1 ∧ KeptL (gat o).2.1 ∧ LeqP (gat o).1 (gat o).2.1
 dev : o.2.1 = 6 → o.2.2.2.2.2.2.2.2.2.2.1.length ≤ 64 ∧ o.2.2.2.2.2.2.2.2.2.2.2.1.length ≤ 1024
structure SndP (o : D6) : Prop where
 id : 1 ≤ o.1 ∧ o.1 ≤ 2305843009213693952
 kind : 1 ≤ o.2.1 ∧ o.2.1 ≤ 6
 lab : KeptL o.2.2.1
 quo : 1 ≤ quo o ∧ quo o ≤ 4096
 own : o.2.1 ≠ 4 → ownedL o.2.2.1 = []
 alone : Alone o
 inner : InnerP o
theorem inner_of (o : D6) (k : Int) (e : o.2.1 = k) (h1 : k = 1 → ((dat o).length : Int) ≤ 16 * (quo o - 1)) (h2 : k = 2 → (lnk o).length ≤ 64 ∧ RisP (lnk o)) (h3 : k = 3 → PagP o.2.2.2.2.2.2.2.1) (h4 : k = 4 → ThrP o.2.2.1 (thr o) ∧ o.2.2.2.2.1 = false) (h5 : k = 5 → KeptL (gat o).1 ∧ KeptL (gat o).2.1 ∧ LeqP (gat o).1 (gat o).2.1) (h6 : k = 6 → o.2.2.2.2.2.2.2.2.2.2.1.length ≤ 64 ∧ o.2.2.2.2.2.2.2.2.2.2.2.1.length ≤ 1024) : InnerP o:=by
 subst e; exact ⟨h1,h2,h3,h4,h5,h6⟩
theorem no {p : Prop} {a b : Int} (h : a ≠ b) : a = b → p:=fun e=>absurd e h
theorem gate_iff (a b : List D0) (ha : a.length ≤ big) (hb : b.length ≤ big) : Def (Option.bind (F94 a) fun v6=>Option.bind (if (v6 && true) = true then (F94 b) else some false) fun v7=>Option.bind (if ((if v6 = true then v7 else false) && true) = true then (F100 a b) else some false) fun v8=>some (if (if v6 = true then v7 else false) = true then v8 else false)) fun r=>r = true ↔ KeptL a ∧ KeptL b ∧ LeqP a b:=by
 refine Def.bind' (F94_iff _ ha) (fun v6 q6=>Def.bindI _ (fun _=>F94_iff _ hb) (fun v7 q7 _=>Def.bindI (fun v8=>v8 = true ↔ LeqP a b) (fun hc=>?_) (fun v8 q8 _=>.ret ⟨fun hr=>?_,fun hp=>?_⟩)))
 ·simp only [Bool.if_false_right,Bool.and_eq_true,decide_eq_true_eq,Bool.and_true] at hc q7
  have k1:=q6.1 hc.1
  have k2:=(q7 hc.1).1 hc.2
  exact F100_iff _ _ (by have:=k1.len; omega) (by have:=k2.len; omega) k1.fit k2.fit
 ·simp only [Bool.if_false_right,Bool.and_eq_true,decide_eq_true_eq,Bool.and_true] at hr q7 q8
  obtain ⟨⟨r1,r2⟩,r3⟩:=hr
  exact ⟨q6.1 r1,(q7 r1).1 r2,(q8 ⟨r1,r2⟩).1 r3⟩
 ·obtain ⟨p1,p2,p3⟩:=hp
  have e6:=q6.2 p1
  subst e6
  have e7:=(q7 (by simp)).2 p2
  subst e7
  have e8:=(q8 (by simp)).2 p3
  subst e8
  simp
theorem gate_iff' (a b : List D0) (ha : a.length ≤ big) (hb : b.length ≤ big) : Def (Option.bind (F187 a) fun v6=>Option.bind (if (v6 && true) = true then (F187 b) else some false) fun v7=>Option.bind (if ((if v6 = true then v7 else false) && true) = true then (F241 a b) else some false) fun v8=>some (if (if v6 = true then v7 else false) = true then v8 else false)) fun r=>r = true ↔ KeptL a ∧ KeptL b ∧ LeqP a b:=by
 refine Def.bind' (F187_iff _ ha) (fun v6 q6=>Def.bindI _ (fun _=>F187_iff _ hb) (fun v7 q7 _=>Def.bindI (fun v8=>v8 = true ↔ LeqP a b) (fun hc=>?_) (fun v8 q8 _=>.ret ⟨fun hr=>?_,fun hp=>?_⟩)))
 ·simp only [Bool.if_false_right,Bool.and_eq_true,decide_eq_true_eq,Bool.and_true] at hc q7
  have k1:=q6.1 hc.1
  have k2:=(q7 hc.1).1 hc.2
  exact F241_iff _ _ (by have:=k1.len; omega) (by have:=k2.len; omega) k1.fit k2.fit
 ·simp only [Bool.if_false_right,Bool.and_eq_true,decide_eq_true_eq,Bool.and_true] at hr q7 q8
  obtain ⟨⟨r1,r2⟩,r3⟩:=hr
  exact ⟨q6.1 r1,(q7 r1).1 r2,(q8 ⟨r1,r2⟩).1 r3⟩
 ·obtain ⟨p1,p2,p3⟩:=hp
  have e6:=q6.2 p1
  subst e6
  have e7:=(q7 (by simp)).2 p2
  subst e7
  have e8:=(q8 (by simp)).2 p3
  subst e8
  simp
theorem dev_iff {a b : Nat} (r : Bool) (hr : r = (if (decide (((a : Nat) : Int) ≤ (64 : Int))) = true then (decide (((b : Nat) : Int) ≤ (1024 : Int))) else false)) : r = true ↔ a ≤ 64 ∧ b ≤ 1024:=by
 subst hr
 simp only [Bool.if_false_right,Bool.and_eq_true,decide_eq_true_eq]
 omega
theorem F34_iff (o : D6) (h : OkO o) : Def (F34 o) fun b=>b = true ↔ SndP o:=by
 unfold F34
 simp only [F93,Option.bind_some,letV_eq,letJ_eq]
 refine Def.bindI _ (fun _=>F94_iff _ h.lab) (fun v2 q2 _=>?_)
 refine Def.bindI _ (fun _=>F95_iff o h) (fun v4 q4 _=>?_)
 refine Def.ite (fun hc=>.ret ⟨fun h=>(by cases h),fun hp=>?_⟩) (fun hc=>?_)
 ·obtain ⟨p1,p2,p3,p4,p5,p6,p7⟩:=hp
  have e2:=(q2 (by simp [p1,p2])).2 p3
  subst e2
  have e4:=(q4 (by simp only [quo] at p4; simp [p1,p2,p4])).2 p6
  subst e4
  simp only [quo] at p4
  simp [p1,p2,p4] at hc
  omega
 simp at hc
 obtain ⟨⟨⟨⟨⟨⟨hid,hk1⟩,hk2⟩,hv2⟩,hq1⟩,hq2⟩,hv4⟩:=hc
 have hkept:=(q2 (by simp [hid,hk1,hk2])).1 hv2
 have hal:=(q4 (by simp [hid,hk1,hk2,hv2,hq1,hq2])).1 hv4
 rw [F96_eq _ (by have:=hkept.len; omega)]
 refine Def.bindI (fun v=>v = ownedL o.2.2.1) (fun _=>.ret rfl) (fun v5 q5 _=>?_)
 refine Def.ite (fun hc=>.ret ⟨fun h=>(by cases h),fun hp=>?_⟩) (fun hc=>?_)
 ·by_cases e4 : o.2.1 = 4
  ·simp [e4] at hc
  ·have:=q5 (by simp [e4])
   rw [hp.own e4] at this
   subst this
   simp at hc
 have hown : o.2.1 ≠ 4 → ownedL o.2.2.1 = []:=fun e4=>by
  have:=q5 (by simp [e4])
  subst this
  simp [e4] at hc
  exact hc
 have mk : InnerP o → SndP o:=fun hi=>⟨hid,⟨hk1,hk2⟩,hkept,⟨hq1,hq2⟩,hown,hal,hi⟩
 have fin : ∀ b : Bool,(b = true ↔ InnerP o) → (b = true ↔ SndP o):=fun b hb=>⟨fun h=>mk (hb.1 h),fun h=>hb.2 h.inner⟩
 by_cases e1 : o.2.1 = 1
 ·rw [if_pos (by simpa using e1)]
  refine .ret (fin _ ?_)
  rw [wrap_i64 (x:=o.2.2.2.1 - 1) (by omega) (by omega),wrap_i64 (by omega) (by omega),decide_eq_true_eq]
  exact ⟨fun h=>inner_of o 1 e1 (fun _=>h) (no (by decide)) (no (by decide)) (no (by decide)) (no (by decide)) (no (by decide)),fun h=>h.seg e1⟩
 rw [if_neg (by simpa using e1)]
 by_cases e2 : o.2.1 = 2
 ·rw [if_pos (by simpa using e2)]
  refine Def.bindI _ (fun _=>F97_iff _ h.lnk) (fun v6 q6 _=>.ret (fin _ ?_))
  constructor
  ·intro hb
   simp only [Bool.if_false_right,Bool.and_eq_true,decide_eq_true_eq] at hb
   have hr:=(q6 (by simpa using hb.1)).1 hb.2
   exact inner_of o 2 e2 (no (by decide)) (fun _=>⟨by simp only [lnk]; omega,hr⟩) (no (by decide)) (no (by decide)) (no (by decide)) (no (by decide))
  ·intro hi
   obtain ⟨h64,hr⟩:=hi.con e2
   have h64' : ((o.2.2.2.2.2.1.length : Nat) : Int) ≤ 64:=by simp only [lnk] at h64; omega
   rw [if_pos (by simpa using h64')]
   exact (q6 (by simpa using h64')).2 hr
 rw [if_neg (by simpa using e2)]
 by_cases e3 : o.2.1 = 3
 ·rw [if_pos (by simpa using e3)]
  refine Def.bind' (F98_iff _) (fun v6 q6=>.ret (fin _ (q6.trans ?_)))
  exact ⟨fun h=>inner_of o 3 e3 (no (by decide)) (no (by decide)) (fun _=>h) (no (by decide)) (no (by decide)) (no (by decide)),fun h=>h.spa e3⟩
 rw [if_neg (by simpa using e3)]
 by_cases e4 : o.2.1 = 4
 ·rw [if_pos (by simpa using e4)]
  refine Def.bind' (F99_iff _ _ hkept h.clr h.lbs) (fun v6 q6=>.ret (fin _ ?_))
  have : ((if v6 = true then (!o.2.2.2.2.1) else false) = true) ↔ ThrP o.2.2.1 (thr o) ∧ o.2.2.2.2.1 = false:=by
   rw [← q6]
   cases v6 <;> simp
  exact this.trans ⟨fun h=>inner_of o 4 e4 (no (by decide)) (no (by decide)) (no (by decide)) (fun _=>h) (no (by decide)) (no (by decide)),fun h=>h.thr e4⟩
 rw [if_neg (by simpa using e4)]
 by_cases e5 : o.2.1 = 5
 ·rw [if_pos (by simpa using e5)]
  refine (gate_iff _ _ h.gra h.gcl).mono fun r hr=>fin _ (hr.trans ?_)
  exact ⟨fun h=>inner_of o 5 e5 (no (by decide)) (no (by decide)) (no (by decide)) (no (by decide)) (fun _=>h) (no (by decide)),fun h=>h.gat e5⟩
 rw [if_neg (by simpa using e5)]
 have e6 : o.2.1 = 6:=by omega
 refine .ret (fin _ ((dev_iff _ rfl).trans ?_))
 exact ⟨fun h=>inner_of o 6 e6 (no (by decide)) (no (by decide)) (no (by decide)) (no (by decide)) (no (by decide)) (fun _=>h),fun h=>h.dev e6⟩
theorem F190_iff (o : D6) (h : OkO o) (hk1 : 1 ≤ o.2.1) (hk2 : o.2.1 ≤ 6) (hkept : KeptL o.2.2.1) (hq1 : 1 ≤ quo o) (hq2 : quo o ≤ 4096) : Def (F190 o) fun b=>b = true ↔ InnerP o:=by
 unfold F190
 simp only [letJ_eq]
 by_cases e1 : o.2.1 = 1
 ·rw [if_pos (by simpa using e1)]
  refine .ret ?_
  simp only [quo] at hq1 hq2
  rw [wrap_i64 (x:=o.2.2.2.1 - 1) (by omega) (by omega),wrap_i64 (by omega) (by omega),decide_eq_true_eq]
  have : (((o.2.2.2.2.2.2.1).length : Nat) : Int) ≤ (o.2.2.2.1 - 1) * 16 ↔ ((dat o).length : Int) ≤ 16 * (quo o - 1):=by simp only [dat,quo]; omega
  exact this.trans ⟨fun h=>inner_of o 1 e1 (fun _=>h) (no (by decide)) (no (by decide)) (no (by decide)) (no (by decide)) (no (by decide)),fun h=>h.seg e1⟩
 rw [if_neg (by simpa using e1)]
 by_cases e2 : o.2.1 = 2
 ·rw [if_pos (by simpa using e2)]
  have mk : (lnk o).length ≤ 64 ∧ RisP (lnk o) ↔ InnerP o:=⟨fun h=>inner_of o 2 e2 (no (by decide)) (fun _=>h) (no (by decide)) (no (by decide)) (no (by decide)) (no (by decide)),fun h=>h.con e2⟩
  refine Def.ite (fun hc=>?_) (fun hc=>.ret ⟨fun h=>(by cases h),fun hp=>?_⟩)
  ·have h64 : (lnk o).length ≤ 64:=by simp at hc; simp only [lnk]; omega
   refine Def.rise1 (l:=lnk o) (fun x=>x) (f:=F236) (fun v=>rfl) h.lnk (fun hn=>?_) (fun hr=>?_)
   ·rw [if_neg (by simp)]
    exact .ret ⟨fun h=>(by cases h),fun hp=>absurd (mk.2 hp).2.rise hn⟩
   ·rw [if_pos trivial]
    refine Def.for1 (l:=lnk o) (fun pre=>∀ x ∈ pre,1 ≤ x ∧ x ≤ 2305843009213693952) h.lnk (by simp) (fun pre v post e hi=>?_) (fun hi=>.done (.ret ⟨fun _=>mk.1 ⟨h64,hr,hi⟩,fun _=>by decide⟩))
    have h238 : F238 v = some (!decide (1 ≤ v ∧ v ≤ 2305843009213693952)):=by
     unfold F238 F186
     rw [Option.bind_some]
     by_cases h1 : 1 ≤ v
     ·have h1' : v > 0:=by omega
      simp [h1,h1']
     ·have h1' : ¬ v > 0:=by omega
      simp [h1,h1']
    rw [h238,Option.bind_some]
    refine Def.ite (fun hc'=>.done (.ret ⟨fun h=>?_,fun hp=>?_⟩)) (fun hc'=>.turn ⟨rfl,fun x hx=>?_⟩)
    ·simp at h
    ·have:=(mk.2 hp).2.id v (by rw [e]; simp)
     simp [this] at hc'
    ·rcases List.mem_append.1 hx with hx | hx
     ·exact hi x hx
     ·simp only [List.mem_singleton] at hx; subst hx
      by_cases hh : 1 ≤ x ∧ x ≤ 2305843009213693952
      ·exact hh
      ·rw [decide_eq_false hh] at hc'; simp at hc'
  ·have:=(mk.2 hp).1
   simp only [lnk] at this
   simp at hc; omega
 rw [if_neg (by simpa using e2)]
 by_cases e3 : o.2.1 = 3
 ·rw [if_pos (by simpa using e3)]
  refine Def.bind' (F239_iff _ h.mps) (fun v6 q6=>.ret (q6.trans ?_))
  exact ⟨fun h=>inner_of o 3 e3 (no (by decide)) (no (by decide)) (fun _=>h) (no (by decide)) (no (by decide)) (no (by decide)),fun h=>h.spa e3⟩
 rw [if_neg (by simpa using e3)]
 by_cases e4 : o.2.1 = 4
 ·rw [if_pos (by simpa using e4)]
  refine Def.bind' (F240_iff o hkept h) (fun v6 q6=>.ret (q6.trans ?_))
  exact ⟨fun h=>inner_of o 4 e4 (no (by decide)) (no (by decide)) (no (by decide)) (fun _=>h) (no (by decide)) (no (by decide)),fun h=>h.thr e4⟩
 rw [if_neg (by simpa using e4)]
 by_cases e5 : o.2.1 = 5
 ·rw [if_pos (by simpa using e5)]
  refine (gate_iff' _ _ h.gra h.gcl).mono fun r hr=>hr.trans ?_
  exact ⟨fun h=>inner_of o 5 e5 (no (by decide)) (no (by decide)) (no (by decide)) (no (by decide)) (fun _=>h) (no (by decide)),fun h=>h.gat e5⟩
 rw [if_neg (by simpa using e5)]
 have e6 : o.2.1 = 6:=by omega
 refine .ret ((dev_iff _ rfl).trans ?_)
 exact ⟨fun h=>inner_of o 6 e6 (no (by decide)) (no (by decide)) (no (by decide)) (no (by decide)) (no (by decide)) (fun _=>h),fun h=>h.dev e6⟩
theorem F124_iff (o : D6) (h : OkO o) : Def (F124 o) fun b=>b = true ↔ SndP o:=by
 unfold F124
 simp only [F186,Option.bind_some,letJ_eq]
 refine Def.ite (fun hc=>.ret ⟨fun h=>(by cases h),fun hp=>?_⟩) (fun hc=>?_)
 ·obtain ⟨p1,p2,p3,p4,p5,p6,p7⟩:=hp
  have p1' : o.1 > 0:=by omega
  simp [p1,p2,p1'] at hc
  omega
 simp at hc
 obtain ⟨⟨hid,hk1⟩,hk2⟩:=hc
 refine Def.bind' (F187_iff _ h.lab) (fun v2 q2=>?_)
 refine Def.ite (fun hc=>.ret ⟨fun h=>(by cases h),fun hp=>?_⟩) (fun hc=>?_)
 ·obtain ⟨p1,p2,p3,p4,p5,p6,p7⟩:=hp
  have e2:=q2.2 p3
  subst e2
  simp only [quo] at p4
  simp [p4] at hc
  omega
 simp at hc
 obtain ⟨⟨hv2,hq1⟩,hq2⟩:=hc
 have hkept:=q2.1 hv2
 rw [F188_eq _ (by have:=hkept.len; omega)]
 refine Def.bindI (fun v=>v = ownedL o.2.2.1) (fun _=>.ret rfl) (fun v5 q5 _=>?_)
 refine Def.ite (fun hc=>.ret ⟨fun h=>(by cases h),fun hp=>?_⟩) (fun hc=>?_)
 ·by_cases e4 : o.2.1 = 4
  ·simp [e4] at hc
  ·have:=q5 (by simp [e4])
   rw [hp.own e4] at this
   subst this
   simp at hc
 have hown : o.2.1 ≠ 4 → ownedL o.2.2.1 = []:=fun e4=>by
  have:=q5 (by simp [e4])
  subst this
  simp [e4] at hc
  exact hc
 have hb:=bare_iff o h
 obtain ⟨r,hr,hb⟩:=hb
 cases h189 : F189 o with
 | none=>rw [h189] at hr; cases hr
 | some x =>
  rw [h189,Option.bind_some] at hr
  rw [Option.bind_some,show (sett6_4_1 (sett6_3_1 (sett6_2_1 (sett6_1_1 (sett6_0_1 (Ty.zero t6 : D6) o.1) o.2.1) o.2.2.1) o.2.2.2.1) o.2.2.2.2.1) = headO o from rfl,hr,Option.bind_some]
  refine Def.bindI _ (fun _=>F190_iff o h hk1 hk2 hkept hq1 hq2) (fun v6 q6 _=>.ret ⟨fun hv=>?_,fun hp=>?_⟩)
  ·simp only [Bool.if_false_right,Bool.and_eq_true,decide_eq_true_eq] at hv
   exact ⟨by omega,⟨hk1,hk2⟩,hkept,⟨hq1,hq2⟩,hown,hb.1 hv.1,(q6 (by simp [hv.1])).1 hv.2⟩
  ·have e1:=hb.2 hp.alone
   subst e1
   have e2:=(q6 (by simp)).2 hp.inner
   subst e2
   rfl
structure FitP (w : D7) : Prop where
 time : 0 ≤ w.1 ∧ w.1 ≤ 1099511627776
 few : (objs w).length ≤ 1024
 ids : Ris w
 snd : ∀ o ∈ objs w,SndP o
theorem F13_iff (w : D7) (hn : (objs w).length ≤ big) (h : ∀ o ∈ objs w,OkO o) : Def (F13 w) fun b=>b = true ↔ FitP w:=by
 unfold F13
 refine Def.ite (fun hc=>.ret ⟨fun h=>(by cases h),fun hp=>?_⟩) (fun hc=>?_)
 ·have h1:=hp.time
  have h2:=hp.few
  simp only [objs] at h2
  simp at hc; omega
 simp at hc
 simp only [letJ_eq]
 refine Def.for1 (l:=objs w) (fun pre=>pre.Pairwise (fun a b=>a.1 < b.1) ∧ ∀ o ∈ pre,SndP o) hn ⟨List.Pairwise.nil,by simp⟩ (fun pre v post e hi=>?_) (fun hi=>.done (.ret ⟨fun _=>⟨⟨by omega,by omega⟩,by simp only [objs]; omega,hi.1,hi.2⟩,fun _=>rfl⟩))
 obtain ⟨hi,hs⟩:=hi
 have hv : v ∈ objs w:=by rw [e]; simp
 refine Def.bind' (F34_iff v (h v hv)) (fun v3 q3=>?_)
 refine Def.bindI _ (fun hc=>Def.prev e hn (by simp at hc; omega)) (fun u hu _=>?_)
 refine Def.bindI _ (fun hc=>Def.at e) (fun v' hv' _=>?_)
 refine Def.ite (fun hc=>.done (.ret ⟨fun h=>(by cases h),fun hp=>?_⟩)) (fun hc=>.turn ⟨rfl,rise_snoc (key:=fun o : D6=>o.1) hi fun x hx=>?_,fun o ho=>?_⟩)
 ·have e3:=q3.2 (hp.snd v hv)
  subst e3
  simp at hc hu hv'
  have h1:=hu hc.1
  have h2:=hv' hc.1
  rw [h2] at hc
  have:=rise_mid (key:=fun o : D6=>o.1) e hp.ids u h1
  omega
 ·by_cases hpos : 0 < pre.length
  ·simp [hpos] at hc hu hv'
   have h1:=hu hc.1
   have h2:=hv' hc.1
   rw [hx] at h1; cases h1
   rw [h2] at hc
   exact hc.2
  ·exact (last_none hpos x hx).elim
 ·rcases List.mem_append.1 ho with ho | ho
  ·exact hs o ho
  ·simp at ho; subst ho
   refine q3.1 ?_
   simp at hc; exact hc.1
theorem F84_iff (w : D7) (hn : (objs w).length ≤ big) (h : ∀ o ∈ objs w,OkO o) : Def (F84 w) fun b=>b = true ↔ FitP w:=by
 unfold F84
 refine Def.ite (fun hc=>?_) (fun hc=>.ret ⟨fun h=>(by cases h),fun hp=>?_⟩)
 ·simp at hc
  simp only [letJ_eq]
  refine Def.rise1 (l:=objs w) (fun o : D6=>o.1) (f:=F145) (fun v=>rfl) hn (fun hr=>?_) (fun hr=>?_)
  ·rw [if_neg (by simp)]
   exact .ret ⟨fun h=>(by cases h),fun hp=>absurd hp.ids hr⟩
  ·rw [if_pos trivial]
   refine Def.for1 (l:=objs w) (fun pre=>∀ o ∈ pre,SndP o) hn (by simp) (fun pre v post e hi=>?_) (fun hi=>.done (.ret ⟨fun _=>⟨by omega,by simp only [objs]; omega,hr,hi⟩,fun _=>by decide⟩))
   have hv : v ∈ objs w:=by rw [e]; simp
   have h143 : Def (F143 v) fun b=>b = true ↔ ¬ SndP v:=by
    unfold F143
    refine Def.bind' (F124_iff v (h v hv)) (fun b q=>.ret ?_)
    rw [← q]; cases b <;> simp
   refine Def.bind' h143 (fun b q=>Def.ite (fun hc'=>.done (.ret ⟨fun h=>?_,fun hp=>?_⟩)) (fun hc'=>.turn ⟨rfl,fun o ho=>?_⟩))
   ·simp at h
   ·exact absurd (hp.snd v hv) (q.1 hc')
   ·rcases List.mem_append.1 ho with ho | ho
    ·exact hi o ho
    ·simp at ho; subst ho
     exact Classical.byContradiction fun hns=>hc' (q.2 hns)
 ·have h1:=hp.time
  have h2:=hp.few
  simp only [objs] at h2
  simp [h1] at hc
  omega
end Go.Fn
namespace Go.Fn
set_option linter.unusedVariables false
open Go Go.Ab Go.Tx
theorem whileO_sim {σ τ ρ : Type} {A : σ → Option (σ ⊕ ρ)} {B : τ → Option (τ ⊕ ρ)} (R : σ → τ → Prop) (μ : σ → Nat)
  (h : ∀ s t,R s t → (∃ r,A s = some (.inr r) ∧ B t = some (.inr r)) ∨ (∃ s' t',A s = some (.inl s') ∧ B t = some (.inl t') ∧ R s' t' ∧ μ s' < μ s)) {s : σ} {t : τ} (h0 : R s t) : whileO A s = whileO B t:=by
 obtain ⟨n,hn⟩ : ∃ n,n = μ s:=⟨_,rfl⟩
 induction n using Nat.strongRecOn generalizing s t with
 | _ n ih =>
  rw [whileO_step,whileO_step (body:=B)]
  rcases h s t h0 with ⟨r,h1,h2⟩ | ⟨s',t',h1,h2,h3,h4⟩
  ·rw [h1,h2]
  ·rw [h1,h2]
   exact ih _ (hn ▸ h4) h3 rfl
theorem wrap_u {x : Int} (h0 : 0 ≤ x) (h1 : x ≤ 18446744073709551615) : IntKind.wrap .u64 x = x:=wrap_in (by simp [inR]; omega)
theorem and_le (a : Int) (m : Nat) (hm : m < 18446744073709551616) : 0 ≤ andI .u64 a m ∧ andI .u64 a m ≤ m:=by
 unfold andI
 have h : (BitVec.ofInt 64 a &&& BitVec.ofInt 64 (m : Int)).toNat ≤ m:=by
  rw [BitVec.toNat_and]
  refine Nat.le_trans Nat.and_le_right ?_
  rw [BitVec.ofInt_natCast,BitVec.toNat_ofNat]
  exact Nat.mod_le _ _
 have h' : ((BitVec.ofInt (IntKind.bits .u64) a &&& BitVec.ofInt (IntKind.bits .u64) (m : Int)).toNat : Int) ≤ m:=by exact_mod_cast h
 rw [wrap_u (by omega) (by omega)]
 exact ⟨by omega,h'⟩
theorem xor_lt {a b : Int} {k : Nat} (hk : k ≤ 63) (ha : 0 ≤ a ∧ a < 2 ^ k) (hb : 0 ≤ b ∧ b < 2 ^ k) : 0 ≤ xorI .u64 a b ∧ xorI .u64 a b < 2 ^ k:=by
 obtain ⟨m,rfl⟩ : ∃ m : Nat,a = m:=⟨a.toNat,by omega⟩
 obtain ⟨n,rfl⟩ : ∃ n : Nat,b = n:=⟨b.toNat,by omega⟩
 have hm : m < 2 ^ k:=by exact_mod_cast ha.2
 have hn : n < 2 ^ k:=by exact_mod_cast hb.2
 have hp : 2 ^ k ≤ 2 ^ 63:=Nat.pow_le_pow_right (by omega) hk
 have h : (BitVec.ofInt 64 (m : Int) ^^^ BitVec.ofInt 64 (n : Int)).toNat < 2 ^ k:=by
  rw [BitVec.toNat_xor,BitVec.ofInt_natCast,BitVec.ofInt_natCast,BitVec.toNat_ofNat,BitVec.toNat_ofNat,Nat.mod_eq_of_lt (by omega),Nat.mod_eq_of_lt (by omega)]
  exact Nat.xor_lt_two_pow hm hn
 have h63 : (2 : Nat) ^ 63 = 9223372036854775808:=rfl
 unfold xorI
 have h1 : (BitVec.ofInt (IntKind.bits .u64) (m : Int) ^^^ BitVec.ofInt (IntKind.bits .u64) (n : Int)).toNat < 2 ^ k:=h
 generalize (BitVec.ofInt (IntKind.bits .u64) (m : Int) ^^^ BitVec.ofInt (IntKind.bits .u64) (n : Int)).toNat = x at h1
 have h' : (x : Int) < 2 ^ k:=by
  have:=Int.ofNat_lt.2 h1
  rwa [Int.natCast_pow] at this
 have h2 : (2 : Int) ^ k ≤ 9223372036854775808:=by
  have:=Int.ofNat_le.2 hp
  rw [Int.natCast_pow,h63] at this
  exact this
 rw [wrap_u (by omega) (by omega)]
 exact ⟨by omega,h'⟩
theorem or_add {l r : Int} (hl : 0 ≤ l ∧ l < 2147483648) (hr : 0 ≤ r ∧ r < 1073741824) : orI .u64 (l * 1073741824) r = l * 1073741824 + r:=by
 obtain ⟨m,rfl⟩ : ∃ m : Nat,l = m:=⟨l.toNat,by omega⟩
 obtain ⟨n,rfl⟩ : ∃ n : Nat,r = n:=⟨r.toNat,by omega⟩
 have h : (BitVec.ofInt 64 ((m : Int) * 1073741824) ||| BitVec.ofInt 64 (n : Int)).toNat = m * 1073741824 + n:=by
  have e : (m : Int) * 1073741824 = ((m * 1073741824 : Nat) : Int):=by simp
  rw [e,BitVec.toNat_or,BitVec.ofInt_natCast,BitVec.ofInt_natCast,BitVec.toNat_ofNat,BitVec.toNat_ofNat,Nat.mod_eq_of_lt (by omega),Nat.mod_eq_of_lt (by omega)]
  have h2:=Nat.shiftLeft_add_eq_or_of_lt (b:=n) (i:=30) (by omega) m
  rw [Nat.shiftLeft_eq] at h2
  rw [show (1073741824 : Nat) = 2 ^ 30 from rfl,← h2]
 unfold orI
 have h1 : (BitVec.ofInt (IntKind.bits .u64) ((m : Int) * 1073741824) ||| BitVec.ofInt (IntKind.bits .u64) (n : Int)).toNat = m * 1073741824 + n:=h
 generalize (BitVec.ofInt (IntKind.bits .u64) ((m : Int) * 1073741824) ||| BitVec.ofInt (IntKind.bits .u64) (n : Int)).toNat = x at h1
 rw [wrap_u (by omega) (by omega)]
 omega
theorem F290_eq : F290 = F277:=rfl
def mkP (L R : Int) : Fin 2 → Int:=fun j=>if j = 0 then L else R
theorem mkP0 {L R : Int} : aidxO (mkP L R) 0 = some L:=rfl
theorem mkP1 {L R : Int} : aidxO (mkP L R) 1 = some R:=rfl
theorem aset0 {L R z : Int} : asetO (mkP L R) 0 z = some (mkP z R):=by
 rw [asetO,dif_pos ⟨by decide,by decide⟩]
 refine congrArg some (funext fun j=>?_)
 rcases j with ⟨_ | _ | j,hj⟩
 ·rfl
 ·rfl
 ·omega
theorem aset1 {L R z : Int} : asetO (mkP L R) 1 z = some (mkP L z):=by
 rw [asetO,dif_pos ⟨by decide,by decide⟩]
 refine congrArg some (funext fun j=>?_)
 rcases j with ⟨_ | _ | j,hj⟩
 ·rfl
 ·rfl
 ·omega
theorem c1 : shlO .u64 1 31 = some 2147483648:=by rw [shlO,if_pos (by decide)]; rfl
theorem c2 : IntKind.wrap .u64 ((2147483648 : Int) - 1) = 2147483647:=wrap_in (by decide)
theorem c3 : IntKind.wrap .i64 ((31 : Int) - 0) = 31:=wrap_in (by decide)
theorem c4 : IntKind.wrap .i64 ((1 : Int) - 0) = 1:=wrap_in (by decide)
theorem c5 : IntKind.wrap .i64 ((31 : Int) - 1) = 30:=wrap_in (by decide)
theorem c6 : shlO .u64 1 30 = some 1073741824:=by rw [shlO,if_pos (by decide)]; rfl
theorem c7 : IntKind.wrap .u64 ((1073741824 : Int) - 1) = 1073741823:=wrap_in (by decide)
theorem c8 : IntKind.wrap .i64 ((1 : Int) - 1) = 0:=wrap_in (by decide)
theorem g0 : guardO (if (decide ((0 : Int) ≤ 0)) = true then (decide ((0 : Int) < 2)) else false) = some ():=by decide
theorem g1 : guardO (if (decide ((0 : Int) ≤ 1)) = true then (decide ((1 : Int) < 2)) else false) = some ():=by decide
theorem F247_even (L R key i : Int) (h0 : 0 ≤ i) (h8 : i < 8) (he : i % 2 = 0) : F247 (mkP L R) key i = Option.bind (F231 key i R) fun v=>some (mkP (xorI .u64 L (andI .u64 v 2147483647)) R):=by
 have hr : remO i 2 = some 0:=by rw [remO,if_pos (by decide),Int.tmod_eq_emod_of_nonneg h0,he]
 unfold F247 F231
 rw [F290_eq,hr,Option.bind_some,c4,g1,Option.bind_some,mkP1,Option.bind_some,wrap_u h0 (by omega)]
 generalize F277 (IntKind.wrap .u64 (IntKind.wrap .u64 (key + IntKind.wrap .u64 (R * 11400714819323198485)) + IntKind.wrap .u64 (i * 15111065706836454659))) = f
 cases f with
 | none=>exact (Option.bind_none _).trans (by rw [Option.bind_none,Option.bind_none])
 | some v =>
  rw [Option.bind_some,Option.bind_some]
  generalize shrO .u64 v 20 = g
  cases g with
  | none=>exact (Option.bind_none _).trans (by rw [Option.bind_none,Option.bind_none])
  | some v7 =>
   rw [Option.bind_some,Option.bind_some,Option.bind_some,g0,Option.bind_some,mkP0,Option.bind_some,c3,c1,Option.bind_some,Option.bind_some,c2]
   generalize xorI .u64 L (andI .u64 v7 2147483647) = z
   rw [aset0,Option.bind_some]
theorem F247_odd (L R key i : Int) (h0 : 0 ≤ i) (h8 : i < 8) (he : i % 2 = 1) : F247 (mkP L R) key i = Option.bind (F231 key i L) fun v=>some (mkP L (xorI .u64 R (andI .u64 v 1073741823))):=by
 have hr : remO i 2 = some 1:=by rw [remO,if_pos (by decide),Int.tmod_eq_emod_of_nonneg h0,he]
 unfold F247 F231
 rw [F290_eq,hr,Option.bind_some,c8,g0,Option.bind_some,mkP0,Option.bind_some,wrap_u h0 (by omega)]
 generalize F277 (IntKind.wrap .u64 (IntKind.wrap .u64 (key + IntKind.wrap .u64 (L * 11400714819323198485)) + IntKind.wrap .u64 (i * 15111065706836454659))) = f
 cases f with
 | none=>exact (Option.bind_none _).trans (by rw [Option.bind_none,Option.bind_none])
 | some v =>
  rw [Option.bind_some,Option.bind_some]
  generalize shrO .u64 v 20 = g
  cases g with
  | none=>exact (Option.bind_none _).trans (by rw [Option.bind_none,Option.bind_none])
  | some v7 =>
   rw [Option.bind_some,Option.bind_some,Option.bind_some,g1,Option.bind_some,mkP1,Option.bind_some,c5,c6,Option.bind_some,Option.bind_some,c7]
   generalize xorI .u64 R (andI .u64 v7 1073741823) = z
   rw [aset1,Option.bind_some]
theorem number_eq (key a : Int) (h1 : 1 ≤ a) (h2 : a ≤ 2305843009213693952) : F215 key a = F185 key a:=by
 have hx:=and_le (IntKind.wrap .u64 (a - 1)) 2305843009213693951 (by omega)
 have hw : IntKind.wrap .u64 (a - 1) = a - 1:=wrap_u (by omega) (by omega)
 rw [hw] at hx
 generalize hxe : andI .u64 (a - 1) ((2305843009213693951 : Nat) : Int) = x at hx
 have hxe' : andI .u64 (a - 1) (2305843009213693951 : Int) = x:=hxe
 have hy:=and_le x 1073741823 (by omega)
 have hsh : shrO .u64 x 30 = some (x / 1073741824):=by
  rw [shrO,if_pos (by decide),show min (30 : Int).toNat (IntKind.bits .u64) = 30 from by decide,Int.fdiv_eq_ediv_of_nonneg _ (by decide)]
  rfl
 unfold F215 F195 F185 F245
 rw [hw,hxe',hsh]
 simp only [Option.bind_some,letJ_eq]
 rw [show ∀ o : Option Int,(Option.bind o fun v=>some v) = o from fun o=>by cases o <;> rfl]
 generalize hyr : andI .u64 x (1073741823 : Int) = y
 have hy' : 0 ≤ y ∧ y ≤ 1073741823:=by rw [← hyr]; exact hy
 refine (whileO_sim (fun (s : Int × Int × Int) (t : Int × (Fin 2 → Int))=>0 ≤ s.2.2 ∧ s.2.2 ≤ 8 ∧ t.1 = s.2.2 ∧ t.2 = mkP s.1 s.2.1 ∧ (0 ≤ s.1 ∧ s.1 < 2147483648) ∧ (0 ≤ s.2.1 ∧ s.2.1 < 1073741824)) (fun s=>8 - s.2.2.toNat) (fun s t hR=>?_) ?_).symm
 ·obtain ⟨L,R,i⟩:=s
  obtain ⟨i',p⟩:=t
  obtain ⟨r1,r2,r3,r4,r5,r6⟩:=hR
  simp only at r1 r2 r3 r4 r5 r6
  subst r3; subst r4
  by_cases hlt : i' < 8
  ·right
   have e1 : IntKind.wrap .u64 ((7 : Int) - i') = 7 - i':=wrap_u (by omega) (by omega)
   have e2 : IntKind.wrap .i64 ((7 : Int) - i') = 7 - i':=wrap_i64 (by omega) (by omega)
   have e3 : IntKind.wrap .u64 (i' + 1) = i' + 1:=wrap_u (by omega) (by omega)
   have e4 : IntKind.wrap .i64 (i' + 1) = i' + 1:=wrap_i64 (by omega) (by omega)
   have hr : remO (7 - i') 2 = some ((7 - i') % 2):=by rw [remO,if_pos (by decide),Int.tmod_eq_emod_of_nonneg (by omega)]
   simp only [hlt,decide_true,if_true,e1,e2,e3,e4,hr,Option.bind_some]
   by_cases he : (7 - i') % 2 = 0
   ·obtain ⟨v,hv,_⟩:=F231_def key (7 - i') R
    have hm:=and_le v 2147483647 (by omega)
    have hm' : 0 ≤ andI .u64 v (2147483647 : Int) ∧ andI .u64 v (2147483647 : Int) < 2 ^ 31:=⟨hm.1,by have:=hm.2; have h31 : (2 : Int) ^ 31 = 2147483648:=rfl; rw [h31]; have hh : andI .u64 v (2147483647 : Int) ≤ 2147483647:=this; omega⟩
    have hxl:=xor_lt (k:=31) (by omega) ⟨r5.1,by have h31 : (2 : Int) ^ 31 = 2147483648:=rfl; omega⟩ hm'
    rw [F247_even L R key _ (by omega) (by omega) he,hv]
    refine ⟨_,_,by simp only [he,beq_self_eq_true,if_true,Option.bind_some]; rfl,rfl,⟨by simp only; omega,by simp only; omega,rfl,rfl,⟨hxl.1,by have h31 : (2 : Int) ^ 31 = 2147483648:=rfl; rw [h31] at hxl; exact hxl.2⟩,r6⟩,by simp only; omega⟩
   ·have he1 : (7 - i') % 2 = 1:=by omega
    obtain ⟨v,hv,_⟩:=F231_def key (7 - i') L
    have hm:=and_le v 1073741823 (by omega)
    have hm' : 0 ≤ andI .u64 v (1073741823 : Int) ∧ andI .u64 v (1073741823 : Int) < 2 ^ 30:=⟨hm.1,by have:=hm.2; have h31 : (2 : Int) ^ 30 = 1073741824:=rfl; rw [h31]; have hh : andI .u64 v (1073741823 : Int) ≤ 1073741823:=this; omega⟩
    have hxl:=xor_lt (k:=30) (by omega) ⟨r6.1,by have h31 : (2 : Int) ^ 30 = 1073741824:=rfl; omega⟩ hm'
    rw [F247_odd L R key _ (by omega) (by omega) he1,hv]
    refine ⟨_,_,by simp only [he1,show ((1 : Int) == 0) = false from rfl,Bool.false_eq_true,if_false,Option.bind_some]; rfl,rfl,⟨by simp only; omega,by simp only; omega,rfl,rfl,r5,⟨hxl.1,by have h31 : (2 : Int) ^ 30 = 1073741824:=rfl; rw [h31] at hxl; exact hxl.2⟩⟩,by simp only; omega⟩
  ·left
   have hl : shlO .u64 L 30 = some (L * 1073741824):=by
    rw [shlO,if_pos (by decide),show min (30 : Int).toNat (IntKind.bits .u64) = 30 from by decide,show (2 : Int) ^ 30 = 1073741824 from rfl,wrap_u (by omega) (by omega)]
   have hd : decide (i' < 8) = false:=by simpa using hlt
   refine ⟨L * 1073741824 + R,?_,?_⟩
   ·simp only [hd,Bool.false_eq_true,if_false,hl,Option.bind_some]
    rw [wrap_u (by omega) (by omega)]
    rfl
   ·simp only [hd,Bool.false_eq_true,if_false]
    unfold F248
    rw [show mkP L R (Fin.mk 0 (by decide)) = L from rfl,show mkP L R (Fin.mk 1 (by decide)) = R from rfl,hl]
    simp only [Option.bind_some]
    rw [or_add r5 r6]
    rfl
 ·refine ⟨by simp,by simp,rfl,?_,⟨by simp only; omega,by simp only; omega⟩,⟨hy'.1,by simp only; omega⟩⟩
  funext j
  rcases j with ⟨_ | _ | j,hj⟩
  ·rfl
  ·rfl
  ·omega
theorem F152_eq (key : Int) (s : D2) (a : Int) (hs : 0 ≤ s.1 ∧ s.2.1 ≤ 2305843009213693952 ∧ s.1 ≤ s.2.1) : Def (F122 key s a) fun b=>F152 key s a = some b:=by
 unfold F122
 obtain ⟨n,hn,hb⟩ : Def (F185 key a) fun n=>0 ≤ n ∧ n ≤ 18446744073709551615:=by
  unfold F185
  simp only [letJ_eq]
  refine Def.bind (Def.shr (by decide) fun v2=>?_)
  refine Def.loop (fun s : Int × Int × Int=>0 ≤ s.2.2 ∧ s.2.2 ≤ 8) (fun s=>8 - s.2.2.toNat) ⟨by simp,by simp⟩ (fun s hi=>?_)
  obtain ⟨h1,h2⟩:=hi
  refine Def.ite (fun hc=>?_) (fun hc=>.done (Def.bind (Def.shl (by decide) fun v=>.ret ?_)))
  ·have hc : s.2.2 < 8:=by simpa using hc
   have hw : IntKind.wrap .u64 (s.2.2 + 1) = s.2.2 + 1:=wrap_in (by simp [inR]; omega)
   refine Def.bind (Def.rem (by decide) fun v6=>Def.ite (fun _=>?_) (fun _=>?_))
   ·refine Def.bind' (F231_def _ _ _) (fun _ _=>.turn ?_)
    simp only [hw]
    exact ⟨⟨by omega,by omega⟩,by omega⟩
   ·refine Def.bind' (F231_def _ _ _) (fun _ _=>.turn ?_)
    simp only [hw]
    exact ⟨⟨by omega,by omega⟩,by omega⟩
  ·have:=inR_wrap .u64 (v + s.2.1)
   simp [inR] at this
   omega
 rw [hn,Option.bind_some]
 refine .ret ?_
 unfold F152
 by_cases hr : 1 ≤ a ∧ a ≤ 2305843009213693952
 ·have h0 : a > 0:=by omega
  rw [number_eq key a hr.1 hr.2,hn]
  simp only [h0,hr.1,hr.2,ge_iff_le,decide_true,if_true,Bool.and_self,Option.bind_some]
  unfold F214 F213
  simp only [Option.bind_some,Option.some.injEq]
  have hw : IntKind.wrap .u64 (s.2.1 - s.1) = s.2.1 - s.1:=wrap_u (by omega) (by omega)
  simp only [hw]
  by_cases hge : n ≥ s.1
  ·have e:=wrap_u (x:=n - s.1) (by omega) (by omega)
   simp only [e]
   have h3 : (n - s.1 < s.2.1 - s.1) ↔ n < s.2.1:=by omega
   simp [hge,h3]
  ·simp [hge]
 ·have hb : ((if (decide (a > (0 : Int))) = true then (decide (a ≤ (2305843009213693952 : Int))) else false)) = false:=by
   by_cases h0 : a > 0
   ·have : ¬ a ≤ 2305843009213693952:=by omega
    simp [h0,this]
   ·simp [h0]
  have hb' : ((if (decide (a ≥ (1 : Int))) = true then (decide (a ≤ (2305843009213693952 : Int))) else false)) = false:=by
   by_cases h0 : a ≥ 1
   ·have : ¬ a ≤ 2305843009213693952:=by omega
    simp [h0,this]
   ·simp [h0]
  rw [hb,hb']
  simp
theorem F150_eq (a b : D2) (ha : 0 ≤ a.1 ∧ a.2.1 ≤ 2305843009213693952 ∧ a.1 ≤ a.2.1) (hb : 0 ≤ b.1 ∧ b.2.1 ≤ 2305843009213693952 ∧ b.1 ≤ b.2.1) : F150 a b = F123 a b:=by
 unfold F150 F123 F214 F213
 simp only [letV_eq,Option.bind_some]
 have wa:=wrap_u (x:=a.2.1 - a.1) (by omega) (by omega)
 have wb:=wrap_u (x:=b.2.1 - b.1) (by omega) (by omega)
 simp only [wa,wb]
 by_cases h1 : a.1 = a.2.1
 ·have : a.2.1 - a.1 = 0:=by omega
  simp [h1]
 ·have e1 : ((a.2.1 - a.1 == 0) = false):=by simp; omega
  have e1' : (a.1 == a.2.1) = false:=by simpa using h1
  rw [e1,e1']
  simp only [Bool.false_eq_true,if_false]
  by_cases h2 : b.1 = b.2.1
  ·simp [h2]
  ·have e2 : ((b.2.1 - b.1 == 0) = false):=by simp; omega
   have e2' : (b.1 == b.2.1) = false:=by simpa using h2
   rw [e2,e2']
   by_cases g1 : b.1 ≥ a.1
   ·have w1:=wrap_u (x:=b.1 - a.1) (by omega) (by omega)
    simp only [w1]
    by_cases g2 : a.1 ≥ b.1
    ·have w2:=wrap_u (x:=a.1 - b.1) (by omega) (by omega)
     simp only [w2]
     have q1 : b.1 - a.1 < a.2.1 - a.1:=by omega
     have q2 : ¬ a.2.1 ≤ b.1:=by omega
     have q3 : ¬ b.2.1 ≤ a.1:=by omega
     simp [q1,g1,q2,q3]
    ·have q3 : ¬ b.2.1 ≤ a.1:=by omega
     by_cases q2 : a.2.1 ≤ b.1
     ·have q1 : ¬ b.1 - a.1 < a.2.1 - a.1:=by omega
      simp [q1,q2,g2]
     ·have q1 : b.1 - a.1 < a.2.1 - a.1:=by omega
      simp [q1,g1,q2,q3]
   ·have g2 : a.1 ≥ b.1:=by omega
    have w2:=wrap_u (x:=a.1 - b.1) (by omega) (by omega)
    simp only [w2]
    have q2 : ¬ a.2.1 ≤ b.1:=by omega
    by_cases q3 : b.2.1 ≤ a.1
    ·have q1 : ¬ a.1 - b.1 < b.2.1 - b.1:=by omega
     simp [q1,q2,q3,g1]
    ·have q1 : a.1 - b.1 < b.2.1 - b.1:=by omega
     simp [q1,g2,q2,q3,g1]
end Go.Fn
namespace Go.Fn
set_option linter.unusedVariables false
open Go Go.Ab Go.Tx
abbrev spn (o : D6) : D2:=(thr o).2.2.2.2.2.2.2.2.2.1
structure Few (w : D7) : Prop where
 len : (objs w).length ≤ 16
 few : ∀ o ∈ objs w,FewO o
 ok : ∀ o ∈ objs w,OkO o
 spn : ∀ o ∈ objs w,0 ≤ (spn o).1
theorem fit_nice {w : D7} (hF : Few w) (h : FitP w) : Nice w:={
 few:=by have:=hF.len; omega
 ids:=h.ids
 lns:=fun o ho=>by have:=(hF.few o ho).2.1; simp only [lnk]; omega
 lnk:=fun o ho=>by
  have hs:=h.snd o ho
  by_cases e : o.2.1 = 2
  ·exact (hs.inner.con e).2.rise
  ·rw [hs.alone.lnk e]; exact List.Pairwise.nil
 dat:=fun o ho=>by have:=(hF.few o ho).2.2.1; simp only [dat]; omega }
theorem fit_niceD {w : D7} (hF : Few w) (h : FitP w) : ∀ o ∈ objs w,NiceD o:=fun o ho=>{
 lns:=(fit_nice hF h).lns o ho
 lnk:=(fit_nice hF h).lnk o ho
 dat:=(fit_nice hF h).dat o ho
 lab:=by have:=(h.snd o ho).lab.len; omega
 fit:=(h.snd o ho).lab.fit
 lab4:=by have:=(h.snd o ho).lab.len; omega }
theorem F86_eq {w : D7} (hF : Few w) (h : FitP w) {d : D6} (hd : d ∈ objs w) : F86 (sett11_0_4 (Ty.zero t11 : D11) w) d = F90 w d:=by
 have hN:=fit_nice hF h
 have hD:=fit_niceD hF h
 have hf:=hN.few
 have h69 : ∀ id,F69 w id = some (findO (objs w) id):=fun id=>F69_eq w id (by omega) hN.ids
 have h43 : ∀ id,F43 w id = some (findO (objs w) id):=fun id=>F43_eq w id hf
 have hpl : ∀ id,F146 d.2.2.1 (findO (objs w) id).1.2.2.1 = F153 d.2.2.1 (findO (objs w) id).1.2.2.1:=fun id=>by
  have ho:=findO_all hD zeroO_niceD id
  rw [F146_eq _ _ (hD d hd).lab ho.lab ho.fit,F153_eq _ _ (hD d hd).lab4 ho.lab4 (hD d hd).fit ho.fit]
 have hu : F35 w d = F36 w d:=by
  rw [F35_eq w d (by omega) hN.ids (hN.dat d hd) (hN.lns d hd),F36_eq w d hf (hN.dat d hd) (hN.lns d hd)]
 unfold F86 F90
 simp only [letJ_eq,h69,h43,hu,Option.bind_some,hpl]
theorem climb_of {l : List D6} {id : Int} {c : List Int} (h : Chain l id c) : ∀ (k : Nat) (acc : List Int),c.length < k → climb l k id acc = acc ++ c:=by
 induction h with
 | nil e =>
  intro k acc hk
  obtain ⟨k,rfl⟩ : ∃ m,k = m + 1:=⟨k - 1,by simp at hk; omega⟩
  rw [climb,e]; simp
 | cons e h ih =>
  intro k acc hk
  obtain ⟨k,rfl⟩ : ∃ m,k = m + 1:=⟨k - 1,by simp at hk; omega⟩
  rw [climb,e]
  simp only
  rw [ih k _ (by simp at hk; omega)]
  simp
theorem chain_len {l : List D6} {id : Int} {c : List Int} (h : Chain l id c) : c.length ≤ l.length:=by
 have:=len_sub c (l.map (·.1)) (List.nodup_cons.1 h.nodup).2 (fun x hx=>by
  obtain ⟨y,hy,e⟩:=h.mem x hx
  exact List.mem_map.2 ⟨y,hy,e⟩)
 simpa using this
theorem F41_all (w : D7) (id : Int) (hw : Nice w) : F41 w id = some (above (objs w) id):=by
 have hf:=hw.few
 have hk : ∀ o ∈ objs w,(lnk o).length ≤ 1000 ∧ (lnk o).Pairwise (· < ·):=fun o ho=>⟨hw.lns o ho,hw.lnk o ho⟩
 by_cases hc : ∃ c,Chain (objs w) id c
 ·obtain ⟨c,hc⟩:=hc
  have hl:=chain_len hc
  rw [F41_eq w id hf hk hc hl]
  unfold above
  rw [climb_of hc _ _ (by omega)]; rfl
 ·have ha : above (objs w) id = []:=by
   rcases climb_chain (objs w) ((objs w).length + 1) id [] with h | ⟨c,h,_⟩
   ·exact h
   ·exact absurd ⟨c,h⟩ hc
  rw [ha]
  refine Def.eq ?_
  unfold F41
  rw [F104_eq w id hf hk,Option.bind_some]
  simp only [letJ_eq]
  refine Def.loop (fun s : List Int × Int × Bool=>s.1.length ≤ (objs w).length + 1 ∧ s.2.2 = true ∧ ¬ ∃ c,Chain (objs w) s.2.1 c) (fun s=>(objs w).length + 2 - s.1.length) ?_ (fun s hi=>?_)
  ·cases hh : holders (objs w) id with
   | nil=>exact absurd ⟨[],.nil hh⟩ hc
   | cons d r=>exact ⟨by simp,rfl,fun ⟨c,h⟩=>hc ⟨d :: c,.cons hh h⟩⟩
  ·obtain ⟨a,d,b⟩:=s
   obtain ⟨h1,h2,h3⟩:=hi
   simp only at h1 h2 h3
   subst h2
   simp only [if_true]
   refine Def.ite (fun hg=>.done (.ret rfl)) (fun hg=>?_)
   have hg : ¬ ((a.length : Nat) : Int) > (((objs w).length : Nat) : Int):=by simpa using hg
   refine Def.bind (.ret (Def.bind (Def.app (by simp only [List.length_cons,List.length_nil]; omega) ?_)))
   rw [F104_eq w d hf hk,Option.bind_some]
   cases hh : holders (objs w) d with
   | nil=>exact absurd ⟨[],.nil hh⟩ h3
   | cons d' r =>
    refine .turn ⟨⟨?_,rfl,fun ⟨c,h⟩=>h3 ⟨d' :: c,.cons hh h⟩⟩,?_⟩
    ·simp only [List.length_append,List.length_cons,List.length_nil]; omega
    ·simp only [List.length_append,List.length_cons,List.length_nil]; omega
theorem F87_eq (w : D7) (o : D6) (hw : Nice w) : F87 (sett11_0_4 (Ty.zero t11 : D11) w) o = some (placedB (objs w) w.2.2.1 o):=by
 refine Def.eq ?_
 unfold F87
 rw [F39_eq w o.1 hw,Option.bind_some]
 unfold placedB
 simp only [letV_eq]
 have h147 : o.1 ≠ w.2.2.1 → F147 (sett11_0_4 (Ty.zero t11 : D11) w) o.1 = some (upB (objs w) w.2.2.1 o.1):=by
  intro hr
  unfold F147
  rw [F41_all w o.1 hw,Option.bind_some]
  unfold upB
  have hl:=climb_len (objs w) ((objs w).length + 1) o.1 []
  have hn:=hw.few
  have hal : (above (objs w) o.1).length ≤ 1001:=by unfold above; simp at hl; omega
  generalize above (objs w) o.1 = a at hal
  cases ha : a.getLast? with
  | none =>
   have : a = []:=List.getLast?_eq_none_iff.1 ha
   subst this
   have : (o.1 == w.2.2.1) = false:=by simpa using hr
   simp [this]
  | some r =>
   have hne : a ≠ []:=fun e=>by rw [e] at ha; cases ha
   have hpos : 0 < a.length:=List.length_pos_iff.2 hne
   have hwr : IntKind.wrap .i64 (((a.length : Nat) : Int) - 1) = ((a.length - 1 : Nat) : Int):=by rw [wrap_i64 (by omega) (by omega)]; omega
   have hd : decide (((a.length : Nat) : Int) > 0) = true:=by simp only [decide_eq_true_eq]; omega
   simp only [hd,Bool.and_self,if_true,hwr,idxO_nat]
   rw [← List.getLast?_eq_getElem?,ha]
   rfl
 have hhl:=holders_len (objs w) o.1
 generalize (holders (objs w) o.1).length = n at *
 refine Def.ite (fun h=>.ret ?_) (fun h=>?_)
 ·have h : o.1 = w.2.2.1:=by simpa using h
  rw [if_pos h]
  cases h1 : ((n : Int) == 0) <;> cases h2 : (o.2.1 == 2) <;> simp_all
 ·have h : ¬ o.1 = w.2.2.1:=by simpa using h
  rw [if_neg h,h147 h,F119_eq]
  have hb : ∀ b : Bool,Def (some b) fun v=>v = b:=fun b=>.ret rfl
  by_cases hn1 : n = 1
  ·have c1 : ((n : Int) == 1) = true:=by simp; omega
   have c2 : ¬ (n < 1 ∨ 1 < n ∧ (o.2.2.2.2.1 = false ∨ o.2.1 = 2 ∨ o.2.1 = 4)):=by omega
   rw [if_neg c2]
   simp only [c1,Bool.not_true,Bool.false_and,Bool.false_eq_true,if_false,if_true,Option.bind_some,Bool.true_and,Bool.and_true]
   by_cases hk2 : o.2.1 = 2
   ·rw [if_pos hk2]
    simp [hk2,Def]
   ·rw [if_neg hk2]
    simp [hk2,Def]
  ·have c1 : ((n : Int) == 1) = false:=by simp; omega
   by_cases hgt : 1 < n
   ·have c3 : decide ((n : Int) > 1) = true:=by simp; omega
    simp only [c1,c3,Bool.not_false,Bool.true_and,if_true,Bool.false_eq_true,if_false,Bool.and_true]
    cases hf : o.2.2.2.2.1 with
    | false =>
     rw [if_pos (Or.inr ⟨hgt,.inl rfl⟩)]
     simp [Def]
    | true =>
     simp only [if_true,Option.bind_some]
     by_cases hk : wholeK o.2.1 = true
     ·have hk' : o.2.1 = 2 ∨ o.2.1 = 4:=by unfold wholeK at hk; simpa using hk
      rw [if_pos (Or.inr ⟨hgt,.inr hk'⟩)]
      simp [hk,Def]
     ·have hk' : ¬ (o.2.1 = 2 ∨ o.2.1 = 4):=by unfold wholeK at hk; simpa using hk
      have hk2 : ¬ o.2.1 = 2:=fun e=>hk' (.inl e)
      have c4 : ¬ (n < 1 ∨ 1 < n ∧ (true = false ∨ o.2.1 = 2 ∨ o.2.1 = 4)):=by
       rintro (h | ⟨_,h | h⟩)
       ·omega
       ·cases h
       ·exact hk' h
      rw [if_neg c4,if_neg hk2]
      simp [hk,hk2,Def]
   ·have h0 : n = 0:=by omega
    subst h0
    rw [if_pos (Or.inl (by omega))]
    simp [Def]
theorem F69_def (w : D7) (id : Int) (hl : (objs w).length ≤ 1000000) : Def (F69 w id) fun _=>True:=by
 unfold F69 F132
 rw [Option.bind_some]
 have e0 : ((sett9_1_1 (sett9_0_1 (Ty.zero t9 : D9) w.2.2.2.1) ()) : D8).1 = objs w:=rfl
 simp only [letJ_eq,e0,F145,F203_eq,Option.bind_some]
 refine Def.loop (fun s : Int × Int=>∃ i j : Nat,s = ((i : Int),(j : Int)) ∧ i ≤ j ∧ j ≤ (objs w).length) (fun s=>(s.2 - s.1).toNat) ⟨0,_,rfl,by omega,Nat.le_refl _⟩ (fun s hi=>?_)
 obtain ⟨i,j,rfl,h1,h2⟩:=hi
 refine Def.ite (fun hc=>?_) (fun hc=>?_)
 ·have hlt : i < j:=by simpa using hc
  simp only
  rw [shr_half (by omega),Option.bind_some]
  have ew : IntKind.wrap .i64 (((i + j) / 2 : Nat) : Int) = (((i + j) / 2 : Nat) : Int):=wrap_i64 (by omega) (by omega)
  have ew2 : IntKind.wrap .i64 ((((i + j) / 2 : Nat) : Int) + 1) = (((i + j) / 2 : Nat) : Int) + 1:=wrap_i64 (by omega) (by omega)
  simp only [ew,ew2]
  refine Def.bind (Def.idx (by omega) (by show _ < (((objs w).length : Nat) : Int); omega) (fun v hv _=>?_))
  refine Def.ite (fun _=>.turn ⟨⟨(i + j) / 2 + 1,j,by simp,by omega,h2⟩,by simp only; omega⟩) (fun _=>.turn ⟨⟨i,(i + j) / 2,rfl,by omega,by omega⟩,by simp only; omega⟩)
 ·have hge : ¬ i < j:=by simpa using hc
  have e : j = i:=by omega
  subst e
  refine .done ?_
  refine Def.bindI (fun _=>True) (fun hc=>Def.idx (by omega) (by simpa using hc) (fun v _ _=>trivial)) (fun v _ _=>?_)
  refine Def.ite (fun hc=>Def.ite (fun _=>.ret trivial) (fun _=>Def.bind (Def.idx (by omega) (by simpa using hc) (fun v _ _=>.ret trivial)))) (fun hc=>Def.ite (fun _=>.ret trivial) (fun hn=>by simp at hn))
def SpanP (w : D7) : Prop:=∀ t ∈ objs w,t.2.1 = 4 → ∀ o ∈ objs w,F122 w.2.1 (spn t) o.1 ≠ some true ∧ (o.2.1 = 4 → o.1 ≠ t.1 → F123 (spn t) (spn o) = some true)
theorem F92_iff (w : D7) (hn : (objs w).length ≤ 1000) (hr : Ris w) : Def (F92 w) fun r=>r = true ↔ SpanP w:=by
 unfold F92
 simp only [letJ_eq]
 refine Def.for1 (l:=objs w) (fun pre=>∀ t ∈ pre,t.2.1 = 4 → ∀ o ∈ objs w,F122 w.2.1 (spn t) o.1 ≠ some true ∧ (o.2.1 = 4 → o.1 ≠ t.1 → F123 (spn t) (spn o) = some true)) (by omega) (by simp) (fun pre t post e hi=>?_) (fun hi=>.done (.ret ⟨fun _=>hi,fun _=>rfl⟩))
 have ht : t ∈ objs w:=by rw [e]; simp
 have hgt : (objs w)[pre.length]? = some t:=by rw [e]; simp
 have more : (t.2.1 = 4 → ∀ o ∈ objs w,F122 w.2.1 (spn t) o.1 ≠ some true ∧ (o.2.1 = 4 → o.1 ≠ t.1 → F123 (spn t) (spn o) = some true)) → ∀ x ∈ pre ++ [t],x.2.1 = 4 → ∀ o ∈ objs w,F122 w.2.1 (spn x) o.1 ≠ some true ∧ (o.2.1 = 4 → o.1 ≠ x.1 → F123 (spn x) (spn o) = some true):=by
  intro hp x hx
  rcases List.mem_append.1 hx with hx | hx
  ·exact hi x hx
  ·simp only [List.mem_singleton] at hx; subst hx; exact hp
 refine Def.loop (fun i : Int=>0 ≤ i ∧ i ≤ (objs w).length ∧ (t.2.1 = 4 → ∀ o ∈ (objs w).take i.toNat,F122 w.2.1 (spn t) o.1 ≠ some true ∧ (o.2.1 = 4 → o.1 ≠ t.1 → F123 (spn t) (spn o) = some true))) (fun i : Int=>(objs w).length - i.toNat) ⟨by simp,by omega,by simp⟩ (fun i hi2=>?_)
 obtain ⟨h0,h1,h2⟩:=hi2
 refine Def.ite (fun hc=>?_) (fun hc=>.done (.turn ⟨rfl,more fun hk=>?_⟩))
 ·simp only [Bool.if_false_right,Bool.and_eq_true,decide_eq_true_eq,beq_iff_eq] at hc
  obtain ⟨hlt,hk⟩:=hc
  have hlt : i < (((objs w).length : Nat) : Int):=hlt
  refine Def.bind (Def.idx h0 hlt (fun o ho hom=>?_))
  have hne : (i != (pre.length : Int)) = true ↔ o.1 ≠ t.1:=by
   rw [bne_iff_ne]
   constructor
   ·intro hne' e1
    have:=same_of hr hom ht e1
    subst this
    obtain ⟨k1,e1⟩:=List.getElem?_eq_some_iff.1 ho
    obtain ⟨k2,e2⟩:=List.getElem?_eq_some_iff.1 hgt
    by_cases hlt2 : i.toNat < pre.length
    ·have:=List.pairwise_iff_getElem.1 hr _ _ k1 k2 hlt2
     rw [e1,e2] at this; omega
    ·have hlt3 : pre.length < i.toNat:=by omega
     have:=List.pairwise_iff_getElem.1 hr _ _ k2 k1 hlt3
     rw [e1,e2] at this; omega
   ·intro hne' e1
    rw [e1] at ho
    simp only [Int.toNat_natCast] at ho
    rw [hgt] at ho; cases ho
    exact hne' rfl
  obtain ⟨b,hb,_⟩:=F122_def w.2.1 (spn t) o.1
  have hb' : F122 w.2.1 t.2.2.2.2.2.2.2.2.1.2.2.2.2.2.2.2.2.2.1 o.1 = some b:=hb
  rw [hb',Option.bind_some]
  refine Def.bindI (fun v=>F123 (spn t) (spn o) = some v) (fun _=>⟨_,rfl,rfl⟩) (fun v6 q6 _=>?_)
  refine Def.ite (fun hc=>.done (.done (.ret ⟨fun h=>(by cases h),fun hp=>?_⟩))) (fun hc=>.turn ?_)
  ·obtain ⟨p1,p2⟩:=hp t ht hk o hom
   rw [hb] at p1
   have hbf : b = false:=by cases b with
    | false=>rfl
    | true=>exact absurd rfl p1
   subst hbf
   simp only [Bool.false_eq_true,if_false,Bool.if_false_right,Bool.and_eq_true,decide_eq_true_eq,beq_iff_eq,hne,Bool.not_eq_true'] at hc
   obtain ⟨⟨k4,kn⟩,hv⟩:=hc
   have:=q6 (by simp only [Bool.not_false,Bool.if_false_right,Bool.and_eq_true,decide_eq_true_eq,beq_iff_eq,hne,Bool.and_true,Bool.true_and]; exact ⟨k4,kn⟩)
   rw [p2 k4 kn,hv] at this
   cases this
  ·rw [wrap_i64 (by omega) (by omega)]
   refine ⟨⟨by omega,by omega,fun hk' x hx=>?_⟩,by omega⟩
   rw [show (i + 1).toNat = i.toNat + 1 by omega,List.take_add_one,ho] at hx
   rcases List.mem_append.1 hx with hx | hx
   ·exact h2 hk' x hx
   ·simp at hx; subst hx
    have hbf : b = false:=by cases b with
     | false=>rfl
     | true=>simp at hc
    subst hbf
    refine ⟨by rw [hb]; simp,fun k4 kn=>?_⟩
    have:=q6 (by simp only [Bool.not_false,Bool.if_false_right,Bool.and_eq_true,decide_eq_true_eq,beq_iff_eq,hne,Bool.and_true,Bool.true_and]; exact ⟨k4,kn⟩)
    cases v6 with
    | true=>exact this
    | false =>
     exfalso
     apply hc
     simp only [Bool.false_eq_true,if_false,Bool.if_false_right,Bool.and_eq_true,decide_eq_true_eq,beq_iff_eq,hne,Bool.not_false]
     exact ⟨⟨k4,kn⟩,trivial⟩
 ·have hend : i = (objs w).length:=by
   by_cases h : i < (((objs w).length : Nat) : Int)
   ·exfalso
    apply hc
    have h' : i < ((List.length w.2.2.2.1 : Nat) : Int):=h
    simp [h',hk]
   ·omega
  have:=h2 hk
  rw [hend] at this
  simpa using this
theorem span_fit {w : D7} (hF : Few w) (h : FitP w) {t : D6} (ht : t ∈ objs w) (hk : t.2.1 = 4) : 0 ≤ (spn t).1 ∧ (spn t).2.1 ≤ 2305843009213693952 ∧ (spn t).1 ≤ (spn t).2.1:=by
 have hs:=((h.snd t ht).inner.thr hk).1.span
 unfold spanB at hs
 simp only [Bool.if_false_right,Bool.and_eq_true,decide_eq_true_eq] at hs
 exact ⟨hF.spn t ht,hs.2,hs.1⟩
theorem F89_iff {w : D7} (hF : Few w) (h : FitP w) : Def (F89 (sett11_0_4 (Ty.zero t11 : D11) w)) fun r=>r = true ↔ SpanP w:=by
 have hn:=hF.len
 unfold F89
 simp only [letJ_eq]
 refine Def.for1 (l:=objs w) (fun pre=>∀ t ∈ pre,t.2.1 = 4 → ∀ o ∈ objs w,F122 w.2.1 (spn t) o.1 ≠ some true ∧ (o.2.1 = 4 → o.1 ≠ t.1 → F123 (spn t) (spn o) = some true)) (by omega) (by simp) (fun pre t post e hi=>?_) (fun hi=>.done (.ret ⟨fun _=>hi,fun _=>rfl⟩))
 have ht : t ∈ objs w:=by rw [e]; simp
 have more : (t.2.1 = 4 → ∀ o ∈ objs w,F122 w.2.1 (spn t) o.1 ≠ some true ∧ (o.2.1 = 4 → o.1 ≠ t.1 → F123 (spn t) (spn o) = some true)) → ∀ x ∈ pre ++ [t],x.2.1 = 4 → ∀ o ∈ objs w,F122 w.2.1 (spn x) o.1 ≠ some true ∧ (o.2.1 = 4 → o.1 ≠ x.1 → F123 (spn x) (spn o) = some true):=by
  intro hp x hx
  rcases List.mem_append.1 hx with hx | hx
  ·exact hi x hx
  ·simp only [List.mem_singleton] at hx; subst hx; exact hp
 refine Def.ite (fun hk=>?_) (fun hk=>.turn ⟨rfl,more fun hk'=>absurd hk' (by simpa using hk)⟩)
 have hk : t.2.1 = 4:=by simpa using hk
 have hst:=span_fit hF h ht hk
 refine Def.for1 (l:=objs w) (fun pre2=>∀ o ∈ pre2,o.2.1 = 4 → o.1 ≠ t.1 → F123 (spn t) (spn o) = some true) (by omega) (by simp) (fun pre2 o post2 e2 hi2=>?_) (fun hi2=>.done ?_)
 ·have ho : o ∈ objs w:=by rw [e2]; simp
  have more2 : (o.2.1 = 4 → o.1 ≠ t.1 → F123 (spn t) (spn o) = some true) → ∀ x ∈ pre2 ++ [o],x.2.1 = 4 → x.1 ≠ t.1 → F123 (spn t) (spn x) = some true:=by
   intro hp x hx
   rcases List.mem_append.1 hx with hx | hx
   ·exact hi2 x hx
   ·simp only [List.mem_singleton] at hx; subst hx; exact hp
  refine Def.ite (fun hk2=>?_) (fun hk2=>.turn ⟨rfl,more2 fun hk'=>absurd hk' (by simpa using hk2)⟩)
  have hk2 : o.2.1 = 4:=by simpa using hk2
  have h150 : F150 (spn t) (spn o) = F123 (spn t) (spn o):=F150_eq _ _ hst (span_fit hF h ho hk2)
  refine Def.bindI (fun v=>F123 (spn t) (spn o) = some v) (fun _=>⟨_,h150.trans rfl,rfl⟩) (fun v5 q5 _=>?_)
  refine Def.ite (fun hc=>.done (.done (.ret ⟨fun h=>(by cases h),fun hp=>?_⟩))) (fun hc=>.turn ⟨rfl,more2 fun _ hne=>?_⟩)
  ·simp only [Bool.if_false_right,Bool.and_eq_true,decide_eq_true_eq,bne_iff_ne,ne_eq,Bool.not_eq_true'] at hc
   have:=q5 (by simpa using hc.1)
   rw [(hp t ht hk o ho).2 hk2 hc.1,hc.2] at this
   cases this
  ·have:=q5 (by simpa using hne)
   cases v5 with
   | true=>exact this
   | false=>exfalso; apply hc; simp [hne]
 ·refine Def.for1 (l:=objs w) (fun pre3=>∀ o ∈ pre3,F122 w.2.1 (spn t) o.1 ≠ some true) (by omega) (by simp) (fun pre3 o post3 e3 hi3=>?_) (fun hi3=>.done ?_)
  ·have ho : o ∈ objs w:=by rw [e3]; simp
   obtain ⟨b,hb,hb2⟩:=F152_eq w.2.1 (spn t) o.1 hst
   have hb2' : F152 (sett11_0_4 (Ty.zero t11 : D11) w).1.2.1 t.2.2.2.2.2.2.2.2.1.2.2.2.2.2.2.2.2.2.1 o.1 = some b:=hb2
   rw [hb2',Option.bind_some]
   refine Def.ite (fun hc=>.done ?_) (fun hc=>.turn ⟨rfl,fun x hx=>?_⟩)
   ·subst hc
    rw [if_pos (by simp)]
    exact .done (.ret ⟨fun h=>(by cases h),fun hp=>absurd hb (hp t ht hk o ho).1⟩)
   ·rcases List.mem_append.1 hx with hx | hx
    ·exact hi3 x hx
    ·simp only [List.mem_singleton] at hx; subst hx
     rw [hb]
     intro hbt
     exact hc (Option.some.inj hbt)
  ·rw [if_neg (by decide)]
   exact .turn ⟨rfl,more fun _ o ho=>⟨hi3 o ho,hi2 o ho⟩⟩
structure WholeP (w : D7) : Prop where
 fit : FitP w
 root : (findO (objs w) w.2.2.1).2 = true
 lnk : ∀ o ∈ objs w,F90 w o = some true
 plc : ∀ o ∈ objs w,placedB (objs w) w.2.2.1 o = true
 spn : SpanP w
theorem F33_iff {w : D7} (hF : Few w) : Def (F33 w) fun b=>b = true ↔ WholeP w:=by
 have hn:=hF.len
 unfold F33
 refine Def.bind (Def.of (F43_eq w _ (by omega)) ?_)
 refine Def.bind' (F13_iff w (by unfold big; omega) hF.ok) (fun v2 q2=>?_)
 refine Def.ite (fun hc=>.ret ⟨fun h=>(by cases h),fun hp=>?_⟩) (fun hc=>?_)
 ·have:=q2.2 hp.fit
  subst this
  simp [hp.root] at hc
 simp at hc
 obtain ⟨hc1,hroot⟩:=hc
 have hfit:=q2.1 hc1
 have hN:=fit_nice hF hfit
 have hD:=fit_niceD hF hfit
 simp only [letJ_eq]
 refine Def.for1 (l:=objs w) (fun pre=>∀ o ∈ pre,F90 w o = some true ∧ placedB (objs w) w.2.2.1 o = true) (by omega) (by simp) (fun pre v post e hi=>?_) (fun hi=>.done ?_)
 ·have hv : v ∈ objs w:=by rw [e]; simp
  obtain ⟨b,hb,_⟩:=F90_def w v (by omega) (fun o ho=>(hfit.snd o ho).lab.len) (hfit.snd v hv).lab.len (hN.lns v hv) (hN.dat v hv)
  rw [hb,Option.bind_some]
  refine Def.bindI _ (fun _=>Def.at e) (fun v6 q6 _=>?_)
  refine Def.bindI (fun x=>x = placedB (objs w) w.2.2.1 v6) (fun _=>Def.of (F91_eq w v6 (by omega) hN.lns) rfl) (fun v7 q7 _=>?_)
  refine Def.ite (fun hc=>.done (.ret ⟨fun h=>(by cases h),fun hp=>?_⟩)) (fun hc=>.turn ⟨rfl,fun o ho=>?_⟩)
  ·have h1:=hp.lnk v hv
   rw [hb] at h1; cases h1
   have e6:=q6 (by simp)
   subst e6
   have e7:=q7 (by simp)
   rw [hp.plc v6 hv] at e7
   subst e7
   simp at hc
  ·rcases List.mem_append.1 ho with ho | ho
   ·exact hi o ho
   ·simp only [List.mem_singleton] at ho
    subst ho
    simp at hc
    have e6:=q6 (by simp [hc.1])
    subst e6
    have e7:=q7 (by simp [hc.1])
    rw [hc.2] at e7
    rw [hb,hc.1]
    exact ⟨rfl,e7.symm⟩
 ·refine Def.bind' (F92_iff w (by omega) hN.ids) (fun v q=>.ret ⟨fun h=>⟨hfit,hroot,fun o ho=>(hi o ho).1,fun o ho=>(hi o ho).2,q.1 h⟩,fun hp=>q.2 hp.spn⟩)
theorem F32_iff {w : D7} (hF : Few w) : Def (F32 w) fun b=>b = true ↔ WholeP w:=by
 have hn:=hF.len
 unfold F32
 obtain ⟨v1,hv1,_⟩:=F69_def w w.2.2.1 (by omega)
 rw [hv1,Option.bind_some]
 refine Def.bindI (fun b=>b = true ↔ FitP w) (fun _=>F84_iff w (by unfold big; omega) hF.ok) (fun v2 q2 n2=>?_)
 have hfound : FitP w → v1 = findO (objs w) w.2.2.1:=fun h=>by
  have:=F69_eq w w.2.2.1 (by omega) h.ids
  rw [hv1] at this; exact Option.some.inj this
 refine Def.ite (fun hc=>.ret ⟨fun h=>(by cases h),fun hp=>?_⟩) (fun hc=>?_)
 ·have h1:=hfound hp.fit
  rw [h1,hp.root] at q2 hc
  have:=(q2 (by simp)).2 hp.fit
  subst this
  simp at hc
 simp at hc
 obtain ⟨hr1,hc2⟩:=hc
 have hfit:=(q2 (by simp [hr1])).1 hc2
 have hroot : (findO (objs w) w.2.2.1).2 = true:=by rw [← hfound hfit]; exact hr1
 have hN:=fit_nice hF hfit
 simp only [letJ_eq]
 refine Def.for1 (l:=objs w) (fun pre=>∀ o ∈ pre,F90 w o = some true ∧ placedB (objs w) w.2.2.1 o = true) (by omega) (by simp) (fun pre v post e hi=>?_) (fun hi=>.done ?_)
 ·have hv : v ∈ objs w:=by rw [e]; simp
  obtain ⟨b,hb,_⟩:=F90_def w v (by omega) (fun o ho=>(hfit.snd o ho).lab.len) (hfit.snd v hv).lab.len (hN.lns v hv) (hN.dat v hv)
  rw [F86_eq hF hfit hv,hb,Option.bind_some]
  refine Def.bindI (fun x=>x = placedB (objs w) w.2.2.1 v) (fun _=>Def.of (F87_eq w v hN) rfl) (fun v7 q7 _=>?_)
  refine Def.ite (fun hc=>.done ?_) (fun hc=>.turn ⟨rfl,fun o ho=>?_⟩)
  ·have hge : decide ((pre.length : Int) ≥ 0) = true:=by simp
   simp only [hge,Bool.not_true,Bool.false_and,Bool.false_eq_true,if_false,Option.bind_some]
   refine .ret ⟨fun h=>(by cases h),fun hp=>?_⟩
   have h1:=hp.lnk v hv
   rw [hb] at h1; cases h1
   have e7:=q7 (by simp)
   rw [hp.plc v hv] at e7
   subst e7
   simp at hc
  ·rcases List.mem_append.1 ho with ho | ho
   ·exact hi o ho
   ·simp only [List.mem_singleton] at ho
    subst ho
    simp at hc
    have e7:=q7 (by simp [hc.1])
    rw [hc.2] at e7
    rw [hb,hc.1]
    exact ⟨rfl,e7.symm⟩
 ·have hlt : decide ((-1 : Int) ≥ 0) = false:=by decide
  simp only [hlt,Bool.not_false,Bool.and_self,if_true]
  refine Def.bind' (F89_iff hF hfit) (fun v q=>.ret ⟨fun h=>⟨hfit,hroot,fun o ho=>(hi o ho).1,fun o ho=>(hi o ho).2,q.1 h⟩,fun hp=>q.2 hp.spn⟩)
end Go.Fn
namespace Go.Fn
set_option linter.unusedVariables false
open Go Go.Ab Go.Tx
theorem spn_of {o : D6} (h : wfT t6 o) : 0 ≤ (spn o).1:=by
 obtain ⟨_,_,_,_,_,_,_,_,h5,_⟩:=h
 obtain ⟨_,_,_,_,_,_,_,_,_,c,_⟩:=h5
 have h1 : inR .u64 (spn o).1 = true:=c.1
 simp [inR] at h1
 omega
theorem F5_true (w : D7) (o : D6) (id : Int) (hw : wfT t7 w) (ho : wfT t6 o) : F5 w o id = some true:=by
 obtain ⟨_,hok⟩:=ok_of hw
 have hspn : ∀ x ∈ objs w,0 ≤ (spn x).1:=by
  obtain ⟨_,_,_,h,_⟩:=hw
  exact fun x hx=>spn_of (h.2 x hx)
 refine Def.eq ?_
 unfold F5
 refine Def.bind' (F30_def w) (fun v3 q3=>?_)
 refine Def.ite (fun _=>Def.bind (Def.of awake14 (.ret rfl))) (fun hc=>?_)
 simp at hc
 obtain ⟨⟨hc1,hl70⟩,hd300⟩:=hc
 obtain ⟨hn,hf⟩:=q3 hc1
 have hF : Few w:=⟨hn,hf,hok,hspn⟩
 refine Def.bind' (F32_iff hF) (fun v4 q4=>?_)
 obtain ⟨v5,hv5,q5⟩:=F33_iff hF
 rw [hv5,Option.bind_some]
 have e45 : v4 = v5:=by
  rw [Bool.eq_iff_iff,q4,q5]
 subst e45
 rw [if_neg (by simp)]
 refine Def.bind' (F13_iff w (by unfold big; omega) hok) (fun v6 q6=>?_)
 refine Def.bindI _ (fun _=>F34_iff o (okO_of ho)) (fun v7 q7 _=>?_)
 refine Def.ite (fun _=>Def.bind (Def.of awake14 (.ret rfl))) (fun hc=>?_)
 simp at hc
 obtain ⟨rfl,rfl⟩:=hc
 have hfit:=q6.1 rfl
 have hs:=(q7 (by simp)).1 rfl
 have hN:=fit_nice hF hfit
 have hD:=fit_niceD hF hfit
 have hfw:=hN.few
 have hol : (lnk o).length ≤ 1000:=by simp only [lnk]; omega
 have hod : (dat o).length ≤ 1000000:=by simp only [dat]; omega
 have hoO : NiceO o:={
  lns:=hol
  lnk:=by
   by_cases e : o.2.1 = 2
   ·exact (hs.inner.con e).2.rise
   ·rw [hs.alone.lnk e]; exact List.Pairwise.nil
  dat:=hod
  lab:=by have:=hs.lab.len; omega
  fit:=hs.lab.fit }
 have hh:=holders_len (objs w) id
 have hcl:=climb_len (objs w) ((objs w).length + 1) id []
 have ha : (above (objs w) id).length ≤ 1001:=by unfold above; simp at hcl; omega
 have e41:=F41_all w id hN
 have e42 : F42 w id = some (above (objs w) id):=F42_eq w id hfw hN.lns
 have r1 : F27 (holders (objs w) id) (holders (objs w) id) = some true:=by rw [F27_eq]; exact F139_refl _ (by unfold big; omega)
 have r2 : F27 (above (objs w) id) (above (objs w) id) = some true:=by rw [F27_eq]; exact F139_refl _ (by unfold big; omega)
 have e37 : F37 w o = some (roomF (objs w) o):=F37_eq w o (by omega) hN.ids hod hol
 rw [F35_eq w o (by omega) hN.ids hod hol,F36_eq w o hfw hod hol,e37,F38_eq w o hN hoO,F39_eq w id hN,F40_eq w id hfw hN.lns]
 simp only [Option.bind_some,beq_self_eq_true,Bool.and_self,if_true,r1,hv5,e41,e42]
 cases v4 with
 | true =>
  simp only [Bool.not_true,Bool.not_false,Bool.and_self,if_true,Option.bind_some,r2,Bool.false_eq_true,if_false,awake14]
  exact .ret rfl
 | false =>
  simp only [Bool.not_true,Bool.not_false,Bool.and_self,Bool.and_false,Bool.false_and,Bool.false_eq_true,if_false,if_true,Option.bind_some,awake14]
  exact .ret rfl
end Go.Fn
namespace Go.Fn
set_option maxRecDepth 100000
open Go Go.Ab Go.Tx
theorem law5 {st : TupD [t7,t6,(.int .u64)]} (h : EnvWf (toVs [t7,t6,(.int .u64)] st) → F5 st.1 st.2.1 st.2.2 = some true) : PureOK Go.Proofs.Tryz.prog 5 ((toVs [t7,t6,(.int .u64)] st).map Val.d) [.b true] :=
 law_of L27 pm 5 [t7,t6,(.int .u64)] .bool (fun st=>F5 st.1 st.2.1 st.2.2) [(5,3,[.calm [0,1,2,3,4]]),(5,7,[.calm [0,1,2,3,4,5,6,7,8,9,10,11,12,13,14,15,16,17,18,19,20,21,22,23,24,25,26,27,28,29,30,31,32,33,34,35,36,37,38,39,40,41,42]])] [] [] spOK_nil (fun st=>by kernel_rfl) (by kernel_rfl) h
end Go.Fn
