import Derived.Test.YtleeccmcgophfaaPH
import Derived.KernelRfl
import Derived.Test.YtleeccmcgophfaaPC
import Derived.ProofKit
import Derived.OpenShut
import Derived.Carry
import Derived.WideKeyArgs
set_option linter.all false
namespace Go.Tx
open Go Go.Ab
theorem FW {α:Type} {x:Option α} (h:x.isNone=true):x=none:=by cases x <;> simp_all
set_option maxHeartbeats 4000000 in
theorem jq {C:Cx} (hm:C.P.follows .mixedOrders=true) (hsp:GK C.P C.sp):∀ (n:Nat) (p:Name) (t:Task) (y:Sy) (c:Nat) (r:Res),cmp C n p t y c=some r→Snd C.P p t y r
 | 0,p,t,y,c,r,h=>by simp [cmp] at h
 | n+1,p,.code f cd lc lv,y,c,r,h=>by
  have H:=jq hm hsp n
  cases cd with
  | skip=>simp only [cmp] at h;cases h;exact .skip
  | label l=>simp only [cmp] at h;cases h;exact .label
  | scope b=>simp only [cmp] at h;exact .scope (H _ _ _ _ _ h)
  | exit i=>simp only [cmp] at h;cases h;exact .exit
  | ret=>simp only [cmp] at h;cases h;exact .ret
  | region id ops b =>
   cases b with
   | false =>
    simp only [cmp] at h
    obtain ⟨r0,h1,rfl⟩:=Option.map_eq_some_iff.1 h
    exact .region (H _ _ _ _ _ h1)
   | true =>
    simp only [cmp] at h
    split at h
    ·rename_i hp
     obtain ⟨r0,h1,rfl⟩:=Option.map_eq_some_iff.1 h
     exact .draw hm hp (H _ _ _ _ _ h1)
    ·obtain ⟨r0,h1,rfl⟩:=Option.map_eq_some_iff.1 h
     exact .mix hm h1
  | seq a b =>
   simp only [cmp] at h
   split at h
   ·rename_i r0 h1
    refine .seq (lvb:=lv) (lb:=lc.b) (H _ _ _ _ _ h1) h ?_ ?_
    ·intro lf c r1 he hF
     simp only [he] at hF
     exact H _ _ _ _ _ hF
    ·intro lf c r1 he hF
     split at hF
     ·contradiction
     ·cases hF;rfl
   ·cases h
  | cond cd a b =>
   simp only [cmp] at h
   split at h
   ·rename_i hc;exact .VU hc (H _ _ _ _ _ h)
   ·rename_i hc;exact .VU hc (H _ _ _ _ _ h)
   ·rename_i x _ _ hc
    split at h
    ·rename_i r1 h1
     split at h
     ·rename_i r2 h2
      exact .cond hc (H _ _ _ _ _ h1) (H _ _ _ _ _ h2) h
     ·cases h
    ·cases h
   ·cases h
  | block id b =>
   simp only [cmp] at h
   split at h
   ·rename_i r0 h1
    exact .block (H _ _ _ _ _ h1) h
   ·cases h
  | loop b =>
   simp only [cmp] at h
   split at h
   ·rename_i hf
    split at h
    ·rename_i r0 h1
     have e:(Qn y.g (C.hl c) (AV lc.l (uN (NH (C.hl c)) (hCv (C.hl c)) y))).1.lp=y.lp:=(UC (g0:=y.g) (h:=C.hl c) (y:=AV lc.l (uN (NH (C.hl c)) (hCv (C.hl c)) y))).trans (wH (ids:=NH (C.hl c)) (cv:=hCv (C.hl c)) (y:=y))
     exact Snd.loop (yL:=(Qn y.g (C.hl c) (AV lc.l (uN (NH (C.hl c)) (hCv (C.hl c)) y))).1) e hf.1 hf.2 (H _ _ _ _ _ h1) h
    ·cases h
   ·cases h
  | rangeFunc g ps a b =>
   simp only [cmp] at h
   split at h
   ·rename_i gf cap hg
    split at h
    ·rename_i hb
     simp only [Bool.and_eq_true,Bool.not_eq_true',List.contains_eq_mem,decide_eq_false_iff_not] at hb
     obtain ⟨⟨⟨⟨⟨b1,b2⟩,b3⟩,b4⟩,b5⟩,b6⟩:=hb
     split at h
     ·rename_i fn hfn
      split at h
      ·rename_i cb hcb
       split at h
       ·rename_i hle
        split at h
        ·rename_i r0 h0
         split at h
         ·rename_i r1 h1
          split at h
          ·rename_i r2 h2
           refine .range (l:=[c,f]) hg b1 b2 (FW b3) b4 b5 b6 hfn hcb hle.1 hle.2 (H _ _ _ _ _ h0) h1 h2 h ?_
           intro lf c1 r3 hF
           split at hF
           ·rename_i hlen
            refine ⟨hlen,?_⟩
            split at hF
            ·rename_i nm q ql hlp
             refine ⟨nm,q,ql,hlp,?_⟩
             split at hF
             ·rename_i hp;cases hF;exact ⟨_,rfl,.inl ⟨hp,rfl⟩⟩
             ·rename_i i hp;cases hF;exact ⟨_,rfl,.inr (.inl ⟨i,hp,rfl⟩)⟩
             ·rename_i hp;cases hF;exact ⟨_,rfl,.inr (.inr ⟨hp,rfl⟩)⟩
             ·cases hF
            ·cases hF
           ·cases hF
          ·cases h
         ·cases h
        ·cases h
       ·cases h
      ·cases h
     ·cases h
    ·cases h
   ·cases h
  | _=>simp [cmp] at h
 | n+1,p,.ops f all l,y,c,r,h=>by
  have H:=jq hm hsp n
  cases l with
  | nil=>simp only [cmp] at h;cases h;exact .abP
  | cons o rest =>
   simp only [cmp] at h
   split at h
   ·rename_i bs y1 h1
    obtain ⟨r0,h2,rfl⟩:=Option.map_eq_some_iff.1 h
    exact .abQ h1 (H _ _ _ _ _ h2)
   ·split at h
    ·rename_i hd
     split at h
     ·rename_i hg
      exact .abh H hd hg h
     ·rename_i j want hg
      split at h
      ·rename_i t ht
       split at h
       ·rename_i b hk
        split at h
        ·rename_i e;subst e
         exact .ZP H hd hg ht hk h
        ·cases h
       ·rename_i x _ hk
        split at h
        ·rename_i r1 h1
         split at h
         ·rename_i r2 h2
          cases h
          exact .ZQ H hd hg ht hk h1 h2
         ·cases h
        ·cases h
       ·cases h
      ·cases h
    ·cases h
 | n+1,p,.plan f all l,y,c,r,h=>by
  have H:=jq hm hsp n
  cases l with
  | nil=>simp only [cmp] at h;cases h;exact .abR
  | cons o rest =>
   cases o with
   | calm g =>
    simp only [cmp] at h
    split at h
    ·rename_i bs y1 h1
     obtain ⟨r0,h2,rfl⟩:=Option.map_eq_some_iff.1 h
     exact .abj h1 (H _ _ _ _ _ h2)
    ·cases h
   | bar i =>
    simp only [cmp] at h
    split at h
    ·rename_i o ho
     split at h
     ·rename_i r0 h1
      exact .abS ho (H _ _ _ _ _ h1) h fun lf c r1 hF=>H _ _ _ _ _ hF
     ·cases h
    ·cases h
   | beside l1 l2 js =>
    simp only [cmp] at h
    split at h
    ·rename_i r9 h9
     cases h
     have h:=h9
     clear h9
     split at h
     ·rename_i hd
      split at h
      ·rename_i bs y1 h1
       split at h
       ·split at h
        ·rename_i bs2 y2 h3
         obtain ⟨r0,h4,rfl⟩:=Option.map_eq_some_iff.1 h
         exact .X4 hd h1 h3 (H _ _ _ _ _ h4)
        ·cases h
       ·cases h
      ·cases h
     ·cases h
    ·split at h
     ·rename_i bs y1 h1
      split at h
      ·rename_i r0 h2
       obtain ⟨r1,h4,rfl⟩:=Option.map_eq_some_iff.1 h
       exact .abl h1 (H _ _ _ _ _ h2) h4 fun lf c r' hF=>H _ _ _ _ _ hF
      ·cases h
     ·cases h
 | n+1,p,.bes f all l2 hb y2 js rest,y,c,r,h=>by
  have H:=jq hm hsp n
  cases js with
  | nil=>simp only [cmp] at h;exact .abT (H _ _ _ _ _ h)
  | cons j js =>
   simp only [cmp] at h
   split at h
   ·rename_i oj hj
    split at h
    ·rename_i hd
     split at h
     ·rename_i r1 h1
      refine .abk hj hd (H _ _ _ _ _ h1) h fun lf c r' hF=>?_
      split at hF
      ·rename_i hb
       exact ⟨hb,H _ _ _ _ _ hF⟩
      ·cases hF
     ·cases h
    ·cases h
   ·cases h
 | n+1,p,.call g args,y,c,r,h=>by
  have H:=jq hm hsp n
  simp only [cmp] at h
  split at h
  ·rename_i bs y1 z1 hq
   cases h
   exact .quick hsp hq
  split at h
  ·rename_i i u q hq
   exact .abm hq (H _ _ _ _ _ h)
  split at h
  ·rename_i fn hfn
   split at h
   ·rename_i cb hcb
    split at h
    ·rename_i hle
     split at h
     ·rename_i r0 h0
      split at h
      ·rename_i r1 h1
       split at h
       ·rename_i r2 h2
        refine .call hfn hcb hle (H _ _ _ _ _ h0) h1 h2 h ?_
        intro lf c1 r3 hF
        split at hF
        ·rename_i hlen
         split at hF
         ·rename_i vs hvs
          cases hF
          exact ⟨hlen,vs,hvs,rfl⟩
         ·cases hF
        ·cases hF
       ·cases h
      ·cases h
     ·cases h
    ·cases h
   ·cases h
  ·cases h
 | n+1,p,.yld l args,y,c,r,h=>by
  have H:=jq hm hsp n
  simp only [cmp] at h
  split at h
  ·rename_i q hl
   split at h
   ·rename_i f hf
    split at h
    ·rename_i hps
     split at h
     ·rename_i r1 h1
      refine .yld (lc':=(qW q.body lv0).2) (lv':=lv0) hl hf hps.1 hps.2 (H _ _ _ _ _ h1) h ?_
      intro lf c1 r3 hF
      split at hF
      ·rename_i he
       refine ⟨he,?_⟩
       split at hF
       ·rename_i q1 hq1
        refine ⟨q1,hq1,?_⟩
        split at hF
        ·rename_i hpn
         refine ⟨FW hpn,?_⟩
         split at hF
         ·rename_i r2 h2
          split at hF
          ·rename_i r2' h3
           refine ⟨_,r2,r2',_,H _ _ _ _ _ h2,h3,hF,?_⟩
           intro lf2 c2 r4 hG
           split at hG
           ·rename_i hlen
            refine ⟨hlen,?_⟩
            split at hG
            ·rename_i q2 hq2
             cases hG
             exact ⟨q2,hq2,rfl⟩
            ·cases hG
           ·cases hG
          ·cases hF
         ·cases hF
        ·cases hF
       ·cases hF
      ·cases hF
     ·cases h
    ·cases h
   ·cases h
  ·cases h
end Go.Tx
namespace Go.Tx
open Go Go.Ab
abbrev tX:List Ty→Type
 | []=>Unit
 | [t]=>t.den
 | t::u::ts=>t.den×tX (u::ts)
def l7:(ts:List Ty)→tX ts→List Val
 | [],_=>[]
 | [t],x=>[⟨t,x⟩]
 | t::u::ts,x=>⟨t,x.1⟩::l7 (u::ts) x.2
def yN (t:Ty) (v:Val):Option t.den:=if h:v.1=t then some (h ▸ v.2) else none
def qZ:(ts:List Ty)→List Val→Option (tX ts)
 | [],[]=>some ()
 | [t],[v]=>yN t v
 | t::u::ts,v::vs=>match yN t v,qZ (u::ts) vs with
  | some a,some b=>some (a,b)
  | _,_=>none
 | _,_=>none
theorem wL {t:Ty} {v:Val} {x:t.den} (h:yN t v=some x):v=⟨t,x⟩:=by
 unfold yN at h
 split at h
 ·rename_i e;subst e;cases h;rfl
 ·cases h
theorem mZ:∀ {ts:List Ty} {vs:List Val} {x:tX ts},qZ ts vs=some x→vs=l7 ts x
 | [],[],x,h=>rfl
 | [],_::_,x,h=>by simp [qZ] at h
 | [t],[],x,h=>by simp [qZ] at h
 | [t],[v],x,h=>by
  simp only [qZ] at h
  rw [wL h];rfl
 | [t],_::_::_,x,h=>by simp [qZ] at h
 | t::u::ts,[],x,h=>by simp [qZ] at h
 | t::u::ts,v::vs,x,h=>by
  simp only [qZ] at h
  split at h
  ·rename_i a b h1 h2
   cases h
   rw [wL h1,mZ h2];rfl
  ·cases h
theorem uP:∀ {ts:List Ty} {x:tX ts},(l7 ts x).map (·.1)=ts
 | [],_=>rfl
 | [t],_=>rfl
 | t::u::ts,x=>by
  have:=uP (ts:=u::ts) (x:=x.2)
  simp only [l7,List.map_cons,this]
section
variable {σ ρ:Type}
def oQ (body:σ→Option (σ ⊕ ρ)):Nat→σ→Option ρ
 | 0,_=>none
 | n+1,s=>match body s with
  | none=>none
  | some (.inl s')=>oQ body n s'
  | some (.inr r)=>some r
open Classical in
noncomputable def aH (body:σ→Option (σ ⊕ ρ)) (s:σ):Option ρ:=if h:∃ r n,oQ body n s=some r then some h.choose else none
theorem Ba {body:σ→Option (σ ⊕ ρ)}:∀ {n:Nat} {s:σ} {r:ρ},oQ body n s=some r→oQ body (n+1) s=some r
 | 0,s,r,h=>by cases h
 | n+1,s,r,h=>by
  rw [oQ] at h ⊢
  split at h
  ·cases h
  ·exact Ba h
  ·exact h
theorem Kr {body:σ→Option (σ ⊕ ρ)} {n m:Nat} {s:σ} {r:ρ} (h:oQ body n s=some r) (hm:n≤m):oQ body m s=some r:=by
 induction hm with
 | refl=>exact h
 | step _ ih=>exact Ba ih
theorem l9 {body:σ→Option (σ ⊕ ρ)} {s:σ} {r:ρ}:aH body s=some r↔∃ n,oQ body n s=some r:=by
 unfold aH
 constructor
 ·intro h
  split at h
  ·rename_i hh
   cases h
   exact hh.choose_spec
  ·cases h
 ·rintro ⟨n,h⟩
  have hh:∃ r n,oQ body n s=some r:=⟨r,n,h⟩
  rw [dif_pos hh]
  obtain ⟨m,hm⟩:=hh.choose_spec
  have h1:=Kr h (Nat.le_max_left n m)
  have h2:=Kr hm (Nat.le_max_right n m)
  rw [h1] at h2
  rw [← h2]
theorem II {body:σ→Option (σ ⊕ ρ)} {s:σ}:aH body s=match body s with
  | none=>none
  | some (.inl s')=>aH body s'
  | some (.inr r)=>some r:=by
 apply Option.ext
 intro r
 rw [l9]
 constructor
 ·rintro ⟨n,h⟩
  cases n with
  | zero=>cases h
  | succ n =>
   rw [oQ] at h
   split at h
   ·cases h
   ·exact l9.2 ⟨n,h⟩
   ·exact h
 ·intro h
  split at h
  ·cases h
  ·rename_i s' hb
   obtain ⟨n,hn⟩:=l9.1 h
   exact ⟨n+1,by rw [oQ,hb];exact hn⟩
  ·rename_i r' hb
   exact ⟨1,by rw [oQ,hb];exact h⟩
end
def aO {σ ρ:Type} (k:σ→Option ρ) (body:(σ→Option ρ)→Option ρ):Option ρ:=body k
def zN {α β:Type} (a:α) (k:α→β):β:=k a
def nI (b:Bool):Option Unit:=if b=true then some () else none
def turn {σ ρ:Type} (s:σ):Option (σ ⊕ ρ):=some (.inl s)
def done {σ ρ:Type} (r:Option ρ):Option (σ ⊕ ρ):=r.map .inr
abbrev Ei:=Nat→List Val→(t:Ty)→Option t.den
def Dz {t u:Ty} (x:Option t.den):Option u.den:=if h:t=u then h ▸ x else none
theorem kZ {t u:Ty} {x:Option t.den} {y:u.den} (h:Dz (u:=u) x=some y):∃ a,x=some a∧(⟨t,a⟩:Val)=⟨u,y⟩:=by
 unfold Dz at h
 split at h
 ·rename_i e;subst e;exact ⟨y,h,rfl⟩
 ·cases h
def B.run (F:Ei) (env:List Val):B→(t:Ty)→Option t.den
 | .lets x,t=>match x.val env with
  | some v=>yN t v
  | none=>none
 | .guard c,t=>match c.val env with
  | some ⟨.bool,b⟩=>Dz (t:=.unit) (nI b)
  | _=>none
 | .r2 o x y,t=>match x.val env,y.val env with
  | some a,some b=>match CB o a.1 b.1 with
   | some r=>Dz (r.2 a.2 b.2)
   | none=>none
  | _,_=>none
 | .r3 o x y z,t=>match x.val env,y.val env,z.val env with
  | some a,some b,some d=>match LZ o a.1 b.1 d.1 with
   | some r=>Dz (r.2 a.2 b.2 d.2)
   | none=>none
  | _,_,_=>none
 | .call g args,t=>match evs env args with
  | some vs=>F g vs t
  | none=>none
 | .list u es,t=>match evs env es with
  | some vs=>match Hy u vs with
   | some l=>if es.length≤16777216 then Dz (t:=.sl u) (some l) else none
   | none=>none
  | none=>none
 | .ifb gs b u,t=>if u=t then (match holds env gs with
  | some c=>if c=true then b.run F env t else some t.zero
  | none=>none) else none
noncomputable def T.run (F:Ei):T→(ρ:Type)→List Val→List (List Val→Option ρ)→Option ρ
 | .fail,ρ,env,js=>none
 | .hole _,ρ,env,js=>none
 | .jump j es,ρ,env,js=>match js[j]? with
  | some k=>match evs env es with
   | some vs=>k vs
   | none=>none
  | none=>none
 | .bind b t k,ρ,env,js=>match b with
  | .lets x=>match x.val env with
   | some v=>match yN t v with
    | some a=>zN a fun a=>k.run F ρ (env++[⟨t,a⟩]) js
    | none=>none
   | none=>none
  | b=>Option.bind (b.run F env t) fun a=>k.run F ρ (env++[⟨t,a⟩]) js
 | .ite c x y,ρ,env,js=>match c.val env with
  | some ⟨.bool,b⟩=>if b=true then x.run F ρ env js else y.run F ρ env js
  | _=>none
 | .letj ps k body,ρ,env,js=>aO (σ:=tX ps) (fun st=>k.run F ρ (env++l7 ps st) js) fun j=>body.run F ρ env ((fun vs=>match qZ ps vs with | some st=>j st | none=>none)::js)
 | .loop ps init body,ρ,env,js=>match evs env init with
  | some vs=>match qZ ps vs with
   | some st=>aH (fun st=>body.run F (tX ps ⊕ ρ) (env++l7 ps st) ((fun vs=>match qZ ps vs with | some st=>turn st | none=>none)::js.map fun k vs=>done (k vs))) st
   | none=>none
  | none=>none
 | .range _ _ _ _ _,ρ,env,js=>none
def Sj (P:Program) (F:Ei):Prop:=∀ g vs t x,bW vs→F g vs t=some x→dF P g vs ⟨t,x⟩
section
variable {P:Program} {F:Ei}
theorem B.ZT (hF:Sj P F) {env:List Val} (hw:bW env):∀ {b:B} {t:Ty} {x:t.den},b.run F env t=some x→b.ok (dF P) env ⟨t,x⟩:=by
 intro b
 induction b with
 | lets e =>
  intro t x h
  simp only [B.run] at h
  split at h
  ·rename_i v hv
   simp only [B.ok]
   rw [hv,wL h]
  ·cases h
 | guard c =>
  intro t x h
  simp only [B.run] at h
  split at h
  ·rename_i b hb
   obtain ⟨a,h1,h2⟩:=kZ h
   unfold nI at h1
   split at h1
   ·rename_i e;subst e
    simp only [B.ok]
    exact ⟨hb,h2.symm⟩
   ·cases h1
  ·cases h
 | r2 o e f =>
  intro t x h
  simp only [B.run] at h
  split at h
  ·rename_i a b ha hb
   split at h
   ·rename_i r hr
    obtain ⟨c,h1,h2⟩:=kZ h
    exact ⟨a,b,r,c,ha,hb,hr,h1,h2.symm⟩
   ·cases h
  ·cases h
 | r3 o e f g =>
  intro t x h
  simp only [B.run] at h
  split at h
  ·rename_i a b d ha hb hd
   split at h
   ·rename_i r hr
    obtain ⟨c,h1,h2⟩:=kZ h
    exact ⟨a,b,d,r,c,ha,hb,hd,hr,h1,h2.symm⟩
   ·cases h
  ·cases h
 | call g args =>
  intro t x h
  simp only [B.run] at h
  split at h
  ·rename_i vs hvs
   exact ⟨vs,hvs,hF g vs t x (evs_wf hw hvs) h⟩
  ·cases h
 | list u es =>
  intro t x h
  simp only [B.run] at h
  split at h
  ·rename_i vs hvs
   split at h
   ·rename_i l hl
    split at h
    ·rename_i hlen
     obtain ⟨c,h1,h2⟩:=kZ h
     cases h1
     exact ⟨vs,l,hvs,hl,hlen,h2.symm⟩
    ·cases h
   ·cases h
  ·cases h
 | ifb gs b u ih =>
  intro t x h
  simp only [B.run] at h
  split at h
  ·rename_i e
   subst e
   split at h
   ·rename_i c hc
    refine ⟨c,hc,fun e=>?_,fun e=>?_⟩
    ·rw [if_pos e] at h;exact ⟨ih h,rfl⟩
    ·rw [if_neg (by rw [e];simp)] at h;cases h;rfl
   ·cases h
  ·cases h
theorem VX {ρ ρ' : Type} {f:(List Val→Option ρ)→(List Val→Option ρ')} {js:List (List Val→Option ρ)} {j:Nat} {k:List Val→Option ρ'} (h:(js.map f)[j]? = some k):∃ k0,js[j]? = some k0∧k=f k0:=by
 rw [List.getElem?_map] at h
 obtain ⟨k0,h1,rfl⟩:=Option.map_eq_some_iff.1 h
 exact ⟨k0,h1,rfl⟩
theorem T.yO (hF:Sj P F) {Q:Nat→List Val→Prop}:∀ {t:T} {ρ:Type} {env:List Val} {js:List (List Val→Option ρ)} {J:Jt} {r:ρ},bW env→t.run F ρ env js=some r →
  (∀ j k vs,js[j]? = some k→WfL vs→k vs=some r→J j vs)→t.sat (dF P) J Q env:=by
 intro t
 induction t with
 | fail=>intro ρ env js J r hw h hJ;simp [T.run] at h
 | hole i=>intro ρ env js J r hw h hJ;simp [T.run] at h
 | jump j es =>
  intro ρ env js J r hw h hJ
  simp only [T.run] at h
  split at h
  ·rename_i k hk
   split at h
   ·rename_i vs hvs
    exact ⟨vs,hvs,hJ j k vs hk (evs_wf hw hvs) h⟩
   ·cases h
  ·cases h
 | bind b t k ih =>
  intro ρ env js J r hw h hJ
  have fin:∀ x:t.den,b.ok (dF P) env ⟨t,x⟩→k.run F ρ (env++[⟨t,x⟩]) js=some r→(T.bind b t k).sat (dF P) J Q env :=
   fun x hb hk=>⟨⟨t,x⟩,rfl,hb,ih (hw.snoc (B.TK dI hw hb)) hk hJ⟩
  simp only [T.run] at h
  split at h
  ·rename_i e
   split at h
   ·rename_i v hv
    split at h
    ·rename_i a ha
     refine fin a ?_ h
     simp only [B.ok]
     rw [hv,wL ha]
    ·cases h
   ·cases h
  ·obtain ⟨x,h1,h2⟩:=Option.bind_eq_some_iff.1 h
   exact fin x (B.ZT hF hw h1) h2
 | ite c x y ihx ihy =>
  intro ρ env js J r hw h hJ
  simp only [T.run] at h
  split at h
  ·rename_i b hb
   refine ⟨b,hb,fun e=>?_,fun e=>?_⟩
   ·rw [if_pos e] at h;exact ihx hw h hJ
   ·rw [if_neg (by rw [e];simp)] at h;exact ihy hw h hJ
  ·cases h
 | letj ps k body ihk ihb =>
  intro ρ env js J r hw h hJ
  simp only [T.run,aO] at h
  refine ihb hw h ?_
  intro j k' vs hk hwv hr
  cases j with
  | zero =>
   simp only [List.getElem?_cons_zero,Option.some.injEq] at hk
   subst hk;simp only at hr
   split at hr
   ·rename_i st hst
    have e:=mZ hst
    subst e
    exact ⟨uP,ihk (hw.app hwv) hr hJ⟩
   ·cases hr
  | succ j=>exact hJ j k' vs (by simpa using hk) hwv hr
 | loop ps init body ih =>
  intro ρ env js J r hw h hJ
  simp only [T.run] at h
  split at h
  ·rename_i vs hvs
   split at h
   ·rename_i st hst
    obtain ⟨n,hn⟩:=l9.1 h
    refine ⟨n,vs,hvs,?_⟩
    have hwv:=evs_wf hw hvs
    clear h hvs
    induction n generalizing vs st with
    | zero=>cases hn
    | succ n ihn =>
     have e:=mZ hst
     subst e
     refine ⟨uP,?_⟩
     rw [oQ] at hn
     split at hn
     ·cases hn
     ·rename_i st' hb
      refine ih (hw.app hwv) hb ?_
      intro j k us hk hwu hr
      cases j with
      | zero =>
       simp only [List.getElem?_cons_zero,Option.some.injEq] at hk
       subst hk;simp only at hr
       split at hr
       ·rename_i st2 hst2
        simp only [turn,Option.some.injEq,Sum.inl.injEq] at hr
        subst hr
        exact ihn us st2 hst2 hn hwu
       ·cases hr
      | succ j =>
       obtain ⟨k0,h1,rfl⟩:=VX (by simpa using hk)
       simp only [done] at hr
       obtain ⟨a,_,h2⟩:=Option.map_eq_some_iff.1 hr
       cases h2
     ·rename_i r' hb
      cases hn
      refine ih (hw.app hwv) hb ?_
      intro j k us hk hwu hr
      cases j with
      | zero =>
       simp only [List.getElem?_cons_zero,Option.some.injEq] at hk
       subst hk;simp only at hr
       split at hr
       ·simp [turn] at hr
       ·cases hr
      | succ j =>
       obtain ⟨k0,h1,rfl⟩:=VX (by simpa using hk)
       simp only [done] at hr
       obtain ⟨a,h2,h3⟩:=Option.map_eq_some_iff.1 hr
       cases h3
       exact hJ j k0 us h1 hwu h2
   ·cases h
  ·cases h
 | range ps init l body done ihb ihd=>intro ρ env js J r hw h hJ;simp [T.run] at h
end
end Go.Tx
namespace Go.Tx
open Go Go.Ab
section
variable {P:Program} {CS:Calls'} {env:List Val} {y:Sy} {s:Sa} {p:Name}
theorem DC:∀ (l:List Val) (pre:List Val),aB (pre++l) (Qs pre.length (l.map (·.1))) (l.map fun v=>V.d v.d)
 | [],pre=>rfl
 | v::l,pre=>by
  have h:=DC l (pre++[v])
  rw [List.append_assoc,List.length_append] at h
  refine ⟨_,_,rfl,?_,h⟩
  simp only [ah]
  refine ⟨v.2,?_,rfl⟩
  simp [E.val]
theorem UJ {nt:Nat} (vs:List Val):Inst vs (Qu (vs.map (·.1)) nt) (s0 nt (vs.map Val.d)) :=
 ⟨rfl,rfl,rfl,by
  have:=DC vs []
  simp only [List.nil_append,List.length_nil] at this
  have h:=aG.RY 0 this
  simp only [s0,Qu,List.map_map]
  exact h,rfl,rfl,rfl,rfl,rfl⟩
theorem IJ:∀ {ts:List TypeId} {zs:List SV} {es:List (Ty×E)} {us:List V},XV P ts zs=some es→aB env zs us →
  ∃ vals:List Val,evs env (es.map (·.2))=some vals∧vals.map (·.1)=es.map (·.1)∧eX V.toD us=some (vals.map Val.d)∧∀ r∈es,r.1.ag≠none
 | [],[],es,us,h,hI=>by
  cases h
  simp only [aB] at hI;subst hI
  exact ⟨[],rfl,rfl,rfl,by simp⟩
 | _::_,[],es,us,h,hI=>by cases h
 | [],z::zs,es,us,h,hI=>by cases h
 | t::ts,z::zs,es,us,h,hI=>by
  simp only [XV] at h
  simp only [aB] at hI
  obtain ⟨v,vs',rfl,h1,h2⟩:=hI
  split at h
  ·rename_i r rs hr hrs
   split at h
   ·rename_i g hg
    cases h
    obtain ⟨vals,e1,e2,e3,e4⟩:=IJ hrs h2
    obtain ⟨a,b1,b2⟩:=qJ hr h1
    refine ⟨⟨r.1,a⟩::vals,?_,by simp [e2],?_,?_⟩
    ·simp only [List.map_cons,evs,b1,e1]
    ·simp only [eX,b2,e3];rfl
    ·intro q hq
     rcases List.mem_cons.1 hq with rfl | hq
     ·rw [hg];simp
     ·exact e4 q hq
   ·cases h
  ·cases h
theorem UK {t:Ty} (h:t.ag≠none) (a:t.den):resD t a=[bD t a]:=by
 cases t <;> first | rfl | simp [Ty.ag] at h
theorem IK:∀ {es:List (Ty×E)} {vals:List Val},evs env (es.map (·.2))=some vals→vals.map (·.1)=es.map (·.1)→(∀ r∈es,r.1.ag≠none) →
  ∃ a,(GL es).2.val env=some ⟨(GL es).1,a⟩∧resD (GL es).1 a=vals.map Val.d
 | [],vals,h,ht,hn=>by
  cases vals with
  | nil=>exact ⟨(),rfl,rfl⟩
  | cons v vals=>simp at ht
 | [r],vals,h,ht,hn=>by
  simp only [List.map_cons,List.map_nil,evs] at h
  split at h
  ·rename_i v vs hv he
   cases he;cases h
   obtain ⟨t,a⟩:=v
   simp only [List.map_cons,List.map_nil,List.cons.injEq,and_true] at ht
   subst ht
   exact ⟨a,hv,UK (hn r List.mem_cons_self) a⟩
  ·cases h
 | r::q::rs,vals,h,ht,hn=>by
  have e:(q::rs).map (·.2)=q.2::rs.map (·.2):=rfl
  rw [List.map_cons,evs] at h
  split at h
  ·rename_i v vs hv he
   cases h
   obtain ⟨t,a⟩:=v
   simp only [List.map_cons,List.cons.injEq] at ht
   obtain ⟨ht1,ht2⟩:=ht
   subst ht1
   obtain ⟨b,b1,b2⟩:=IK (es:=q::rs) he (by rw [List.map_cons];exact ht2) fun x hx=>hn x (List.mem_cons_of_mem _ hx)
   refine ⟨(a,b),?_,?_⟩
   ·show Jw (.pair) (r.2.val env) ((GL (q::rs)).2.val env)=_
    rw [hv,b1];rfl
   ·show bD r.1 a::resD (GL (q::rs)).1 b=_
    rw [b2];rfl
  ·cases h
theorem QI {rs:List ResultVar} {rt:List TypeId} {rty:Ty}:∀ {L:List Leaf} {ts:List T},outT P rs rt rty L=some ts→ts.length=L.length∧∀ (i:Nat) (lf:Leaf),L[i]? = some lf→∃ zs es,resV P lf.s rs=some zs∧XV P rt zs=some es∧(GL es).1=rty∧ts[i]? = some (.jump 0 [(GL es).2])
 | [],ts,h=>by cases h;exact ⟨rfl,fun i lf h=>by simp at h⟩
 | lf::L,ts,h=>by
  simp only [outT] at h
  split at h
  ·rename_i zs hzs
   split at h
   ·rename_i es hes
    split at h
    ·obtain ⟨ts',h1,rfl⟩:=Option.map_eq_some_iff.1 h
     rename_i ht
     obtain ⟨k1,k2⟩:=QI h1
     refine ⟨by simp [k1],fun i lf' hl=>?_⟩
     cases i with
     | zero=>simp at hl;subst hl;exact ⟨zs,es,hzs,hes,ht,by simp⟩
     | succ i=>simpa using k2 i lf' (by simpa using hl)
    ·cases h
   ·cases h
  ·cases h
theorem QJ {C:Cx} (hm:C.P.follows .mixedOrders=true) (hsp:GK C.P C.sp) {n g:Nat} {as:List Ty} {rty:Ty} {t:T} {lg:Log} (h:XW C n g as rty=some (t,lg)) {vs:List Val} (hvs:vs.map (·.1)=as) {r:rty.den}
  (hs:bW vs→t.sat (dF C.P) (kE (fun us=>us=[⟨rty,r⟩]) noJ) (fun _ _=>False) vs):kR C.P g (vs.map Val.d) (resD rty r):=by
 subst hvs
 unfold XW at h
 split at h
 ·rename_i fn hfn
  split at h
  ·rename_i cb hcb
   split at h
   ·rename_i hle
    split at h
    ·rename_i r0 h0
     split at h
     ·rename_i r1 h1
      split at h
      ·rename_i ts hts
       cases h
       refine kR.Un [0] hfn hcb (by rw [List.length_map,← List.length_map (f:=fun x:Val=>x.1)];exact hle.1) (fun hwd=>fV ?_)
       have hw:bW vs:=by
        intro v hv
        obtain ⟨i,hi,rfl⟩:=List.mem_iff_getElem.1 hv
        refine Val.Hr ?_ ?_
        ·have:=List.all_eq_true.1 hle.2 vs[i].1 (List.mem_map_of_mem (List.getElem_mem hi))
         exact this
        ·have:=hwd i (by simpa using hi)
         simpa using this
       have H:=jq hm hsp _ _ _ _ _ _ h0
       refine H.go vs _ (UJ vs) hw _ ?_
       have k0:=hs hw
       rw [T.uG,T.mV,mW] at k0
       obtain ⟨hlen,k1⟩:=QI hts
       have k2:r1.t.sat (dF C.P) noJ (LQ r1.L (iL fun _ s'=>∃ s2,Wk s' s2∧G7 C.P s2 fn.results.toList fun us=>eX V.toD us=some (resD rty r))) vs:=by
        refine T.aW (fun _ _ h=>h) ?_ k0
        intro i e hq
        cases htt:ts[i]? with
        | none=>simp [List.getD_eq_getElem?_getD,htt,T.sat] at hq
        | some tt =>
         have hi:i<r1.L.length:=by have:=(List.getElem?_eq_some_iff.1 htt).1;rw [hlen,List.length_map] at this;exact this
         obtain ⟨zs,es,q1,q2,q3,q4⟩:=k1 i (VQ r1.L[i]) (by rw [List.getElem?_map,List.getElem?_eq_getElem hi];rfl)
         rw [htt] at q4
         cases q4
         simp only [List.getD_eq_getElem?_getD,htt,Option.getD_some,T.sat] at hq
         obtain ⟨us,u1,u2⟩:=hq
         have u2:us=[⟨rty,r⟩]:=u2
         subst u2
         refine ⟨r1.L[i],List.getElem?_eq_getElem hi,fun s' hs'=>?_⟩
         obtain ⟨s2,w2,i2⟩:=AP (ids:=(r1.L[i]).s.vc.map (·.1)) hs'
         refine ⟨s2,w2,yG q1 i2 fun ws hws=>?_⟩
         obtain ⟨vals,v1,v2,v3,v4⟩:=IJ q2 hws
         obtain ⟨a,a1,a2⟩:=IK v1 v2 v4
         simp only [evs] at u1
         split at u1
         ·rename_i v vs' w1 w2
          cases w2
          simp only [Option.some.injEq,List.cons.injEq,and_true] at u1
          subst u1
          rw [a1] at w1
          simp only [Option.some.injEq] at w1
          rw [v3,← a2]
          congr 1
          have:∀ {v w:Val},v=w→resD v.1 v.2=resD w.1 w.2:=fun e=>by rw [e]
          exact this w1
         ·cases u1
       refine iY ?_ (wK h1 k2)
       rintro lf _ e hq s' hs'
       obtain ⟨g1,s2,w2,g2⟩:=hq s' hs'
       exact ⟨s2,w2,g1,g2⟩
      ·cases h
     ·cases h
    ·cases h
   ·cases h
  ·cases h
 ·cases h
theorem FX {A:Prop}:∀ {t:T} {env:List Val},t.sat CS (fun _ _=>A) (fun _ _=>A) env→A:=by
 intro t
 induction t with
 | fail=>intro env h;exact h.elim
 | hole i=>intro env h;exact h
 | jump j es=>intro env h;obtain ⟨vs,_,h⟩:=h;exact h
 | bind b t k ih=>intro env h;obtain ⟨v,_,_,h⟩:=h;exact ih h
 | ite c x y ihx ihy=>intro env h;obtain ⟨b,_,h1,h2⟩:=h;cases b with | true=>exact ihx (h1 rfl) | false=>exact ihy (h2 rfl)
 | letj ps k body ihk ihb =>
  intro env h
  refine ihb (T.aW (t:=body) ?_ (fun _ _ h=>h) h)
  intro j vs hj
  cases j with
  | zero=>exact ihk hj.2
  | succ j=>exact hj
 | loop ps init body ih =>
  intro env h
  obtain ⟨n,vs,hv,h⟩:=h
  clear hv
  induction n generalizing vs with
  | zero=>exact h.elim
  | succ n ihn =>
   refine ih (T.aW (t:=body) ?_ (fun _ _ h=>h) h.2)
   intro j us hj
   cases j with
   | zero=>exact ihn us hj
   | succ j=>exact hj
 | range ps init l body done ihb ihd =>
  intro env h
  obtain ⟨t,es,vs,_,_,h⟩:=h
  have key:∀ (es:List t.den) (i:Int) (vs:List Val),xK ps (fun again i x vs=>body.sat CS (kE again fun _ _=>A) (fun _ _=>A) (env++vs++[⟨.int .i64,i⟩,⟨t,x⟩])) (fun vs=>done.sat CS (fun _ _=>A) (fun _ _=>A) (env++vs)) es i vs→A:=by
   intro es
   induction es with
   | nil=>intro i vs h;exact ihd h.2
   | cons x es ihn =>
    intro i vs h
    refine ihb (T.aW (t:=body) ?_ (fun _ _ h=>h) h.2)
    intro j us hj
    cases j with
    | zero=>exact ihn _ us hj
    | succ j=>exact hj
  exact key es 0 vs h
end
structure QK (P:Program) (g:Nat) (as:List Ty) (rty:Ty) (F:tX as→Option rty.den):Prop where
 ok:∀ st r,F st=some r→kR P g ((l7 as st).map Val.d) (resD rty r)
 wf:∀ st r,bW (l7 as st)→F st=some r→Val.wf ⟨rty,r⟩
theorem QK.of {C:Cx} {n g:Nat} {as:List Ty} {rty:Ty} {t:T} {lg:Log} {F:Ei} {f:tX as→Option rty.den} (hm:C.P.follows .mixedOrders=true) (hsp:GK C.P C.sp) (hF:Sj C.P F) (h:XW C n g as rty=some (t,lg))
  (hf:∀ st,t.run F rty.den (l7 as st) [fun vs=>qZ [rty] vs]=f st):QK C.P g as rty f:=by
 have key:∀ st r,f st=some r→bW (l7 as st)→t.sat (dF C.P) (kE (fun us=>us=[⟨rty,r⟩]) noJ) (fun _ _=>False) (l7 as st):=by
  intro st r hr hw
  rw [← hf] at hr
  refine T.yO hF hw hr ?_
  intro j k vs hk hwv hkr
  cases j with
  | zero =>
   simp only [List.getElem?_cons_zero,Option.some.injEq] at hk
   subst hk
   exact mZ hkr
  | succ j=>simp at hk
 constructor
 ·intro st r hr
  exact QJ hm hsp h uP (key st r hr)
 ·intro st r hw hr
  refine FX (CS:=dF C.P) (t:=t) (env:=l7 as st) (T.aW ?_ ?_ (T.uH dI hw (key st r hr hw)))
  ·intro j vs ⟨h1,h2⟩
   cases j with
   | zero=>have h2:vs=[⟨rty,r⟩]:=h2;subst h2;exact h1 _ List.mem_cons_self
   | succ j=>exact h2.elim
  ·intro i e h;exact h.2.2.elim
def noC:Ei:=fun _ _ _=>none
def QL (g:Nat) (as:List Ty) (rty:Ty) (f:tX as→Option rty.den) (F:Ei):Ei:=fun g' vs t=>if Nat.beq g' g=true then (match qZ as vs with
 | some st=>Dz (f st)
 | none=>none) else F g' vs t
theorem ZU {P:Program}:Sj P noC:=fun g vs t x hw h=>by cases h
theorem X5 {P:Program} {g:Nat} {as:List Ty} {rty:Ty} {f:tX as→Option rty.den} {F:Ei} (hg:Nat.blt g 1000000=true) (h:QK P g as rty f) (hF:Sj P F):Sj P (QL g as rty f F):=by
 intro g' vs t x hw hx
 unfold QL at hx
 split at hx
 ·rename_i e
  have e:=Nat.eq_of_beq_eq_true e
  subst e
  split at hx
  ·rename_i st hst
   have e:=mZ hst
   subst e
   obtain ⟨a,h1,h2⟩:=kZ hx
   rw [← h2]
   exact ⟨by rw [if_pos hg];exact h.ok st a h1,h.wf st a hw h1⟩
  ·cases hx
 ·exact hF g' vs t x hw hx
abbrev aaT:=List (Nat×List Ty×Ty)
def zO:aaT→Tab
 | [],_=>none
 | (g,s)::l,g'=>if Nat.beq g' g=true then some s else zO l g'
def eqK (t:Ty):t.den→t.den→Bool:=match eqT t with
 | some f=>f
 | none=>fun _ _=>false
section
variable {α:Type}
def aA (l:List α) (i:Int):Option α:=if 0≤i then l[i.toNat]? else none
def DF {n:Nat} (f:Fin n→α) (i:Int):Option α:=if h:0≤i∧i.toNat<n then some (f ⟨i.toNat,h.2⟩) else none
def ZV (s:ByteArray) (i:Int):Option Int:=if 0≤i then (s[i.toNat]?).map fun c=>(c.toNat:Int) else none
def Ej (k:IntKind) (a b:Int):Option Int:=if b≠0 then some (k.wrap (a.tdiv b)) else none
def abn (a b:Int):Option Int:=if b≠0 then some (a.tmod b) else none
def NJ (k:IntKind) (a b:Int):Option Int:=if 0≤b then some (k.wrap (a * 2 ^ (min b.toNat k.bits))) else none
def Bc (k:IntKind) (a b:Int):Option Int:=if 0≤b then some (a.fdiv (2 ^ (min b.toNat k.bits))) else none
def FY (bytes:Nat) (a b:List α):Option (List α):=if (a.length+b.length) * bytes≤140737488355328 then some (a++b) else none
def abL (l:List α) (lo hi:Int):Option (List α):=if 0≤lo∧lo≤hi∧hi≤l.length then some ((l.take hi.toNat).drop lo.toNat) else none
def eF (l:List α) (i:Int) (x:α):Option (List α):=if 0≤i∧i.toNat<l.length then some (l.set i.toNat x) else none
def abo (bytes:Nat) (l:List α) (i:Int) (ys:List α):Option (List α):=if 0≤i∧i≤l.length∧(l.length+ys.length) * bytes≤140737488355328 then some (l.take i.toNat++ys++l.drop i.toNat) else none
def abM (l:List α) (i j:Int):Option (List α):=if 0≤i∧i<j∧j≤l.length then some (l.take i.toNat++l.drop j.toNat) else none
end
abbrev HlL:=List (Nat×Hint)
def Sl:HlL→Nat→Option Hint
 | [],_=>none
 | (c,h)::l,c'=>if Nat.beq c' c=true then some h else Sl l c'
abbrev PlL:=List (Nat×Nat×List Seg)
def Sm:PlL→FuncId→Nat→List Seg
 | [],_,_=>[]
 | (f,r,s)::l,f',r'=>if Nat.beq f' f&&Nat.beq r' r then s else Sm l f' r'
abbrev SpL:=List (Nat×Spec)
def DI:SpL→FuncId→Option Spec
 | [],_=>none
 | (g,s)::l,g'=>if Nat.beq g' g=true then some s else DI l g'
theorem au {P:Program}:GK P (DI []):=fun _ _ h=>by cases h
theorem aJ {P:Program} {g:Nat} {x:Spec} {l:SpL} (h:JX P g x) (hl:GK P (DI l)):GK P (DI ((g,x)::l)):=fun f y hf=>by
 simp only [DI] at hf
 split at hf
 ·rename_i e
  have e:=Nat.eq_of_beq_eq_true e
  subst e
  cases hf;exact h
 ·exact hl f y hf
end Go.Tx
namespace Go.Tx
open Go Go.Ab
section
variable {σ ρ α β:Type}
@[simp] theorem turn_eq (s:σ):(turn s:Option (σ ⊕ ρ))=some (.inl s):=rfl
@[simp] theorem done_eq (r:Option ρ):(done r:Option (σ ⊕ ρ))=r.map .inr:=rfl
theorem ay (k:σ→Option ρ) (body:(σ→Option ρ)→Option ρ):aO k body=body k:=rfl
theorem eG {α β:Type} (a:α) (k:α→β):zN a k=k a:=rfl
theorem wrap_i64 {x:Int} (h0 : -9223372036854775808≤x) (h1:x≤9223372036854775807):IntKind.wrap .i64 x=x:=wrap_in (by simp [inR];omega)
theorem jJ {l:List α} {k:Nat}:aA l (k:Int)=l[k]?:=by simp [aA]
end
end Go.Tx
namespace Go.Tx
open Go Go.Ab
def Def {α:Type} (x:Option α) (Q:α→Prop):Prop:=∃ r,x=some r∧Q r
section
variable {α β σ ρ:Type} {Q:α→Prop}
theorem Def.ret {a:α} (h:Q a):Def (some a) Q:=⟨a,rfl,h⟩
theorem Def.mono {x:Option α} {Q' : α→Prop} (h:Def x Q) (hq:∀ r,Q r→Q' r):Def x Q':=let ⟨r,a,b⟩:=h;⟨r,a,hq r b⟩
theorem Def.bind {x:Option β} {f:β→Option α} (h:Def x fun b=>Def (f b) Q):Def (Option.bind x f) Q:=by
 obtain ⟨b,rfl,h⟩:=h
 exact h
theorem Def.bind' {x:Option β} {f:β→Option α} {R:β→Prop} (hx:Def x R) (h:∀ b,R b→Def (f b) Q):Def (Option.bind x f) Q:=Def.bind (hx.mono h)
theorem Def.ite {c:Prop} [Decidable c] {x y:Option α} (h1:c→Def x Q) (h2 : ¬ c→Def y Q):Def (if c then x else y) Q:=by
 split
 ·exact h1 ‹_›
 ·exact h2 ‹_›
theorem Def.zN {a:β} {k:β→Option α} (h:Def (k a) Q):Def (zN a k) Q:=h
theorem Def.aO {Q:ρ→Prop} (R:σ→Prop) {k:σ→Option ρ} {body:(σ→Option ρ)→Option ρ} (hk:∀ s,R s→Def (k s) Q) (hb:∀ j:σ→Option ρ,(∀ s,R s→Def (j s) Q)→Def (body j) Q):Def (aO k body) Q:=hb k hk
theorem Def.done {r:Option ρ} {Q:σ ⊕ ρ→Prop} (h:Def r fun x=>Q (.inr x)):Def (done r) Q:=by
 obtain ⟨x,rfl,h⟩:=h
 exact ⟨_,rfl,h⟩
theorem Def.turn {s:σ} {Q:σ ⊕ ρ→Prop} (h:Q (.inl s)):Def (turn s) Q:=⟨_,rfl,h⟩
theorem Def.loop {body:σ→Option (σ ⊕ ρ)} {Q:ρ→Prop} (I:σ→Prop) (μ:σ→Nat) {s:σ} (h0:I s) (h:∀ s,I s→Def (body s) fun r=>match r with | .inl s'=>I s' ∧ μ s' < μ s | .inr r=>Q r):Def (aH body s) Q:=by
 obtain ⟨n,hn⟩:∃ n,n=μ s:=⟨_,rfl⟩
 induction n using Nat.strongRecOn generalizing s with
 | _ n ih =>
  obtain ⟨r,h1,h2⟩:=h s h0
  rw [II,h1]
  cases r with
  | inl s'=>exact ih _ (hn ▸ h2.2) h2.1 rfl
  | inr r=>exact ⟨r,rfl,h2⟩
theorem Def.idx {l:List α} {i:Int} (h0:0≤i) (h1:i<l.length) (h:∀ v,l[i.toNat]? = some v→v∈l→Q v):Def (aA l i) Q:=by
 have hlt:i.toNat<l.length:=by omega
 have e:=List.getElem?_eq_getElem hlt
 exact ⟨l[i.toNat],by rw [aA,if_pos h0,e],h _ e (List.getElem_mem hlt)⟩
theorem Def.guard {b:Bool} {Q:Unit→Prop} (hb:b=true) (h:Q ()):Def (nI b) Q:=⟨(),by rw [nI,if_pos hb],h⟩
theorem Def.app {n:Nat} {a b:List α} {Q:List α→Prop} (hb:(a.length+b.length) * n≤140737488355328) (h:Q (a++b)):Def (FY n a b) Q:=⟨_,by rw [FY,if_pos hb],h⟩
theorem wM {l:List α} {k:Nat} (h:k<l.length):l=l.take k++l[k]::l.drop (k+1):=by
 rw [List.getElem_cons_drop,List.take_append_drop]
theorem Def.Sr {l:List α} {A:β×Int→α→Option ((β×Int) ⊕ ρ)} {E:β×Int→Option ((β×Int) ⊕ ρ)} {Q:ρ→Prop} (I:List α→β→Prop) {a:β} (hl:l.length≤9223372036854775807) (h0:I [] a)
  (hb:∀ pre v post a,l=pre++v::post→I pre a→Def (A (a,(pre.length:Int)) v) fun r=>match r with | .inl s=>s.2=IntKind.wrap .i64 ((pre.length:Int)+1)∧I (pre++[v]) s.1 | .inr r=>Q r)
  (he:∀ a,I l a→Def (E (a,(l.length:Int))) fun r=>match r with | .inl _=>False | .inr r=>Q r) :
  Def (aH (fun s=>if decide (s.2<((l.length:Nat):Int))=true then Option.bind (aA l s.2) (A s) else E s) (a,(0:Int))) Q:=by
 refine Def.loop (fun s:β×Int=>0≤s.2∧s.2≤l.length∧I (l.take s.2.toNat) s.1) (fun s=>l.length - s.2.toNat) ⟨by simp,by simp,by simpa using h0⟩ (fun s hi=>?_)
 obtain ⟨a,i⟩:=s
 obtain ⟨h1,h2,h3⟩:=hi
 simp only at h1 h2 h3
 refine Def.ite (fun hc=>?_) (fun hc=>?_)
 ·have hlt:i<l.length:=by simpa using hc
  have hk:i.toNat<l.length:=by omega
  have hp:((l.take i.toNat).length:Int)=i:=by rw [List.length_take,Nat.min_eq_left (by omega)];omega
  refine Def.bind (Def.idx h1 hlt (fun v hv _=>?_))
  have hv' : l[i.toNat]=v:=by rw [List.getElem?_eq_getElem hk] at hv;exact Option.some.inj hv
  have h4:=hb (l.take i.toNat) v (l.drop (i.toNat+1)) a (by rw [← hv'];exact wM hk) h3
  rw [hp] at h4
  refine h4.mono fun r hr=>?_
  cases r with
  | inr r=>exact hr
  | inl s' =>
   obtain ⟨e1,e2⟩:=hr
   rw [wrap_i64 (by omega) (by omega)] at e1
   have e3:s'.2.toNat=i.toNat+1:=by omega
   refine ⟨⟨by omega,by omega,?_⟩,by simp only;omega⟩
   rw [e3,List.take_add_one,hv]
   exact e2
 ·have hge : ¬ i<l.length:=by simpa using hc
  have e:i=l.length:=by omega
  subst e
  have h3' : I l a:=by simpa using h3
  refine (he a h3').mono fun r hr=>?_
  cases r with
  | inl s=>exact hr.elim
  | inr r=>exact hr
theorem Def.sZ {l:List α} {A:Int→α→Option (Int ⊕ ρ)} {E:Int→Option (Int ⊕ ρ)} {Q:ρ→Prop} (I:List α→Prop) (hl:l.length≤9223372036854775807) (h0:I [])
  (hb:∀ pre v post,l=pre++v::post→I pre→Def (A (pre.length:Int) v) fun r=>match r with | .inl s=>s=IntKind.wrap .i64 ((pre.length:Int)+1)∧I (pre++[v]) | .inr r=>Q r)
  (he:I l→Def (E (l.length:Int)) fun r=>match r with | .inl _=>False | .inr r=>Q r) :
  Def (aH (fun s=>if decide (s<((l.length:Nat):Int))=true then Option.bind (aA l s) (A s) else E s) (0:Int)) Q:=by
 refine Def.loop (fun i:Int=>0≤i∧i≤l.length∧I (l.take i.toNat)) (fun i:Int=>l.length - i.toNat) ⟨by simp,by simp,by simpa using h0⟩ (fun i hi=>?_)
 obtain ⟨h1,h2,h3⟩:=hi
 refine Def.ite (fun hc=>?_) (fun hc=>?_)
 ·have hlt:i<l.length:=by simpa using hc
  have hk:i.toNat<l.length:=by omega
  have hp:((l.take i.toNat).length:Int)=i:=by rw [List.length_take,Nat.min_eq_left (by omega)];omega
  refine Def.bind (Def.idx h1 hlt (fun v hv _=>?_))
  have hv' : l[i.toNat]=v:=by rw [List.getElem?_eq_getElem hk] at hv;exact Option.some.inj hv
  have h4:=hb (l.take i.toNat) v (l.drop (i.toNat+1)) (by rw [← hv'];exact wM hk) h3
  rw [hp] at h4
  refine h4.mono fun r hr=>?_
  cases r with
  | inr r=>exact hr
  | inl s' =>
   obtain ⟨e1,e2⟩:=hr
   rw [wrap_i64 (by omega) (by omega)] at e1
   have e3:s'.toNat=i.toNat+1:=by omega
   refine ⟨⟨by omega,by omega,?_⟩,by omega⟩
   rw [e3,List.take_add_one,hv]
   exact e2
 ·have hge : ¬ i<l.length:=by simpa using hc
  have e:i=l.length:=by omega
  subst e
  have h3' : I l:=by simpa using h3
  refine (he h3').mono fun r hr=>?_
  cases r with
  | inl s=>exact hr.elim
  | inr r=>exact hr
theorem Def.bC {c:Prop} [Decidable c] {x:Option β} {d:β} {f:β→Option α} (R:β→Prop) (hx:c→Def x R) (h:∀ b,(c→R b)→(¬ c→b=d)→Def (f b) Q):Def (Option.bind (if c then x else some d) f) Q:=by
 by_cases hc:c
 ·obtain ⟨b,e,hb⟩:=hx hc
  rw [if_pos hc,e]
  exact h b (fun _=>hb) (fun h=>absurd hc h)
 ·rw [if_neg hc]
  exact h d (fun h=>absurd h hc) (fun _=>rfl)
theorem Def.at {l pre post:List α} {v:α} (e:l=pre++v::post):Def (aA l (pre.length:Int)) fun r=>r=v :=
 ⟨v,by rw [jJ,e];simp,rfl⟩
theorem Def.prev {l pre post:List α} {v:α} (e:l=pre++v::post) (hl:l.length≤9223372036854775807) (h0:0<pre.length):Def (aA l (IntKind.wrap .i64 ((pre.length:Int) - 1))) fun r=>pre.getLast? = some r:=by
 have hn:pre.length≤l.length:=by rw [e];simp
 rw [wrap_i64 (by omega) (by omega),show (pre.length:Int) - 1=((pre.length - 1:Nat):Int) by omega,jJ,e,List.getElem?_append_left (by omega),← List.getLast?_eq_getElem?]
 cases h:pre.getLast? with
 | none=>rw [List.getLast?_eq_none_iff.1 h] at h0;simp at h0
 | some r=>exact ⟨r,rfl,rfl⟩
theorem Def.UL {n:Nat} {f:Fin n→α} {i:Int} (h0:0≤i) (h1:i<n) (h:∀ k,Q (f k)):Def (DF f i) Q:=by
 have hi:0≤i∧i.toNat<n:=⟨h0,by omega⟩
 exact ⟨_,by rw [DF,dif_pos hi],h _⟩
theorem Def.times {n:Nat} {A:Int→Option (Int ⊕ ρ)} {E:Int→Option (Int ⊕ ρ)} {Q:ρ→Prop} (hn:n≤1000000)
  (hb:∀ i:Int,0≤i→i<n→Def (A i) fun r=>match r with | .inl s=>s=IntKind.wrap .i64 (i+1) | .inr r=>Q r)
  (he:Def (E (n:Int)) fun r=>match r with | .inl _=>False | .inr r=>Q r) :
  Def (aH (fun s=>if decide (s<(n:Int))=true then A s else E s) (0:Int)) Q:=by
 refine Def.loop (fun i:Int=>0≤i∧i≤n) (fun i:Int=>n - i.toNat) ⟨by simp,by omega⟩ (fun i hi=>?_)
 obtain ⟨h1,h2⟩:=hi
 refine Def.ite (fun hc=>?_) (fun hc=>?_)
 ·have hlt:i<n:=by simpa using hc
  refine (hb i h1 hlt).mono fun r hr=>?_
  cases r with
  | inr r=>exact hr
  | inl s =>
   rw [wrap_i64 (by omega) (by omega)] at hr
   exact ⟨⟨by omega,by omega⟩,by omega⟩
 ·have e:i=n:=by simp at hc;omega
  subst e
  refine he.mono fun r hr=>?_
  cases r with
  | inl s=>exact hr.elim
  | inr r=>exact hr
theorem Def.Y9 {l:List α} (idx:σ→Int) {B E:σ→Option (σ ⊕ ρ)} {Q:ρ→Prop} (I:List α→σ→Prop) {s0:σ} (hl:l.length≤9223372036854775807) (h00:idx s0=0) (h0:I [] s0)
  (hb:∀ pre v post s,l=pre++v::post→idx s=(pre.length:Int)→I pre s→Def (B s) fun r=>match r with | .inl s'=>idx s' = IntKind.wrap .i64 ((pre.length:Int)+1)∧I (pre++[v]) s' | .inr r=>Q r)
  (he:∀ s,idx s=(l.length:Int)→I l s→Def (E s) fun r=>match r with | .inl _=>False | .inr r=>Q r) :
  Def (aH (fun s=>if decide (idx s<((l.length:Nat):Int))=true then B s else E s) s0) Q:=by
 refine Def.loop (fun s:σ=>0≤idx s∧idx s≤l.length∧I (l.take (idx s).toNat) s) (fun s=>l.length - (idx s).toNat) ⟨by omega,by omega,by rw [h00];simpa using h0⟩ (fun s hi=>?_)
 obtain ⟨h1,h2,h3⟩:=hi
 refine Def.ite (fun hc=>?_) (fun hc=>?_)
 ·have hlt:idx s<l.length:=by simpa using hc
  have hk:(idx s).toNat<l.length:=by omega
  have hp:((l.take (idx s).toNat).length:Int)=idx s:=by rw [List.length_take,Nat.min_eq_left (by omega)];omega
  have h4:=hb (l.take (idx s).toNat) _ (l.drop ((idx s).toNat+1)) s (wM hk) hp.symm h3
  rw [hp] at h4
  refine h4.mono fun r hr=>?_
  cases r with
  | inr r=>exact hr
  | inl s' =>
   obtain ⟨e1,e2⟩:=hr
   rw [wrap_i64 (by omega) (by omega)] at e1
   have e3:(idx s').toNat=(idx s).toNat+1:=by omega
   refine ⟨⟨by omega,by omega,?_⟩,by omega⟩
   rw [e3,List.take_add_one,List.getElem?_eq_getElem hk]
   exact e2
 ·have hge : ¬ idx s<l.length:=by simpa using hc
  have e:idx s=l.length:=by omega
  have h3' : I l s:=by rw [e] at h3;simpa using h3
  refine (he s e h3').mono fun r hr=>?_
  cases r with
  | inl s=>exact hr.elim
  | inr r=>exact hr
theorem Def.shr {k:IntKind} {a b:Int} {Q:Int→Prop} (hb:0≤b) (h:∀ r,Q r):Def (Bc k a b) Q:=⟨_,by rw [Bc,if_pos hb],h _⟩
theorem Def.shl {k:IntKind} {a b:Int} {Q:Int→Prop} (hb:0≤b) (h:∀ r,Q r):Def (NJ k a b) Q:=⟨_,by rw [NJ,if_pos hb],h _⟩
theorem Def.rem {a b:Int} {Q:Int→Prop} (hb:b≠0) (h:∀ r,Q r):Def (abn a b) Q:=⟨_,by rw [abn,if_pos hb],h _⟩
theorem Def.eq {x:Option α} {a:α} (h:Def x fun r=>r=a):x=some a:=by obtain ⟨r,h1,rfl⟩:=h;exact h1
theorem Def.of {x:Option α} {a:α} (h:x=some a) (hq:Q a):Def x Q:=⟨a,h,hq⟩
end
end Go.Tx
namespace Go.Tx
open Go Go.Ab
def T.eval (n:Nat) (F:Ei):T→(ρ:Type)→List Val→List (List Val→Option ρ)→Option ρ
 | .fail,ρ,env,js=>none
 | .hole _,ρ,env,js=>none
 | .jump j es,ρ,env,js=>match js[j]? with
  | some k=>match evs env es with
   | some vs=>k vs
   | none=>none
  | none=>none
 | .bind b t k,ρ,env,js=>match b with
  | .lets x=>match x.val env with
   | some v=>match yN t v with
    | some a=>zN a fun a=>k.eval n F ρ (env++[⟨t,a⟩]) js
    | none=>none
   | none=>none
  | b=>Option.bind (b.run F env t) fun a=>k.eval n F ρ (env++[⟨t,a⟩]) js
 | .ite c x y,ρ,env,js=>match c.val env with
  | some ⟨.bool,b⟩=>if b=true then x.eval n F ρ env js else y.eval n F ρ env js
  | _=>none
 | .letj ps k body,ρ,env,js=>aO (σ:=tX ps) (fun st=>k.eval n F ρ (env++l7 ps st) js) fun j=>body.eval n F ρ env ((fun vs=>match qZ ps vs with | some st=>j st | none=>none)::js)
 | .loop ps init body,ρ,env,js=>match evs env init with
  | some vs=>match qZ ps vs with
   | some st=>oQ (fun st=>body.eval n F (tX ps ⊕ ρ) (env++l7 ps st) ((fun vs=>match qZ ps vs with | some st=>turn st | none=>none)::js.map fun k vs=>done (k vs))) n st
   | none=>none
  | none=>none
 | .range _ _ _ _ _,ρ,env,js=>none
def CLe (F F' : Ei):Prop:=∀ g vs t x,F g vs t=some x→F' g vs t=some x
def JLe {ρ:Type} (js js' : List (List Val→Option ρ)):Prop:=∀ (i:Nat) (k:List Val→Option ρ),js[i]? = some k→∃ k' : List Val→Option ρ,js'[i]? = some k' ∧ ∀ (vs:List Val) (x:ρ),k vs=some x→k' vs=some x
theorem JLe.refl {ρ:Type} (js:List (List Val→Option ρ)):JLe js js:=fun i k h=>⟨k,h,fun _ _ h=>h⟩
theorem JLe.cons {ρ:Type} {js js' : List (List Val→Option ρ)} {k k' : List Val→Option ρ} (hk:∀ vs x,k vs=some x→k' vs=some x) (h:JLe js js'):JLe (k::js) (k' :: js'):=by
 intro i q hq
 cases i with
 | zero=>simp only [List.getElem?_cons_zero,Option.some.injEq] at hq;subst hq;exact ⟨k',by simp,hk⟩
 | succ i=>simpa using h i q (by simpa using hq)
theorem JLe.map {ρ σ:Type} {js js' : List (List Val→Option ρ)} (h:JLe js js'):JLe (js.map fun k vs=>done (σ:=σ) (k vs)) (js'.map fun k vs=>done (σ:=σ) (k vs)):=by
 intro i q hq
 rw [List.getElem?_map] at hq
 cases hj:js[i]? with
 | none=>rw [hj] at hq;cases hq
 | some k =>
  rw [hj] at hq
  simp only [Option.map_some,Option.some.injEq] at hq
  subst hq
  obtain ⟨k',h1,h2⟩:=h i k hj
  refine ⟨fun vs=>done (k' vs),by rw [List.getElem?_map,h1];rfl,fun vs x hx=>?_⟩
  simp only [done] at hx ⊢
  cases hk:k vs with
  | none=>rw [hk] at hx;cases hx
  | some a=>rw [h2 vs a hk];rw [hk] at hx;exact hx
theorem Bd {σ ρ:Type} {b b' : σ→Option (σ ⊕ ρ)} (h:∀ s y,b s=some y→b' s=some y):∀ {n:Nat} {s:σ} {r:ρ},oQ b n s=some r→oQ b' n s=some r
 | 0,s,r,hr=>by cases hr
 | n+1,s,r,hr=>by
  rw [oQ] at hr ⊢
  split at hr
  ·cases hr
  ·rename_i s' e
   rw [h _ _ e];exact Bd h hr
  ·rename_i r' e
   rw [h _ _ e];exact hr
section
variable {F F' : Ei}
theorem B.UM (hF:CLe F F') {env:List Val}:∀ {b:B} {t:Ty} {x:t.den},b.run F env t=some x→b.run F' env t=some x:=by
 intro b
 induction b with
 | ifb gs b u ih =>
  intro t x h
  simp only [B.run] at h ⊢
  split at h
  ·rename_i e
   subst e
   rw [if_pos rfl]
   split at h
   ·split at h
    ·rename_i hc;rw [if_pos hc];exact ih h
    ·rename_i hc;rw [if_neg hc];exact h
   ·cases h
  ·cases h
 | call g args =>
  intro t x h
  simp only [B.run] at h ⊢
  split at h
  ·exact hF _ _ _ _ h
  ·cases h
 | _=>intro t x h;exact h
theorem T.UN (n:Nat) (hF:CLe F F'):∀ {t:T} {ρ:Type} {env:List Val} {js js' : List (List Val→Option ρ)} {x:ρ},JLe js js' → t.eval n F ρ env js=some x→t.run F' ρ env js' = some x:=by
 intro t
 induction t with
 | fail=>intro ρ env js js' x hj h;cases h
 | hole i=>intro ρ env js js' x hj h;cases h
 | jump j es =>
  intro ρ env js js' x hj h
  simp only [T.eval,T.run] at h ⊢
  split at h
  ·rename_i k hk
   obtain ⟨k',h1,h2⟩:=hj _ _ hk
   rw [h1]
   simp only
   cases hv:evs env es with
   | none=>rw [hv] at h;cases h
   | some vs=>rw [hv] at h;exact h2 _ _ h
  ·cases h
 | bind b t k ih =>
  intro ρ env js js' x hj h
  cases b with
  | lets e =>
   simp only [T.eval,T.run,zN] at h ⊢
   cases hv:e.val env with
   | none=>rw [hv] at h;cases h
   | some v =>
    rw [hv] at h
    simp only at h ⊢
    cases hc:yN t v with
    | none=>rw [hc] at h;cases h
    | some a=>rw [hc] at h;exact ih hj h
  | _ =>
   simp only [T.eval,T.run] at h ⊢
   rw [Option.bind_eq_some_iff] at h ⊢
   obtain ⟨a,h1,h2⟩:=h
   exact ⟨a,B.UM hF h1,ih hj h2⟩
 | ite c a b iha ihb =>
  intro ρ env js js' x hj h
  simp only [T.eval,T.run] at h ⊢
  cases hv:c.val env with
  | none=>rw [hv] at h;cases h
  | some v =>
   obtain ⟨u,b⟩:=v
   rw [hv] at h
   cases u with
   | bool =>
    simp only at h ⊢
    split at h
    ·rename_i e;rw [if_pos e];exact iha hj h
    ·rename_i e;rw [if_neg e];exact ihb hj h
   | _=>cases h
 | letj ps k body ihk ihb =>
  intro ρ env js js' x hj h
  simp only [T.eval,T.run,aO] at h ⊢
  refine ihb (hj.cons fun vs y hy=>?_) h
  cases hs:qZ ps vs with
  | none=>rw [hs] at hy;cases hy
  | some st=>rw [hs] at hy;exact ihk hj hy
 | loop ps init body ih =>
  intro ρ env js js' x hj h
  simp only [T.eval,T.run] at h ⊢
  cases hv:evs env init with
  | none=>rw [hv] at h;cases h
  | some vs =>
   rw [hv] at h
   simp only at h ⊢
   cases hs:qZ ps vs with
   | none=>rw [hs] at h;cases h
   | some st =>
   rw [hs] at h
   simp only at h ⊢
   ·refine l9.2 ⟨n,Bd (fun s y hy=>?_) h⟩
    exact ih (hj.map.cons fun vs z hz=>hz) hy
 | range ps init l body d ihb ihd=>intro ρ env js js' x hj h;cases h
end
abbrev Trees:=List (Nat×List Ty×Ty×T)
def yP (n:Nat):Trees→Ei
 | []=>noC
 | (g,as,rty,t)::l=>QL g as rty (fun st=>t.eval n (yP n l) rty.den (l7 as st) [fun vs=>qZ [rty] vs]) (yP n l)
theorem QM (n:Nat):CLe (yP n []) noC:=fun _ _ _ _ h=>h
theorem Bf {n g:Nat} {as:List Ty} {rty:Ty} {t:T} {l:Trees} {F:Ei} {f:tX as→Option rty.den} (h:CLe (yP n l) F) (hf:∀ st,t.run F rty.den (l7 as st) [fun vs=>qZ [rty] vs]=f st):CLe (yP n ((g,as,rty,t)::l)) (QL g as rty f F):=by
 intro g' vs u x hx
 simp only [yP,QL] at hx ⊢
 split at hx
 ·rename_i e
  rw [if_pos e]
  split at hx
  ·rename_i st hst
   obtain ⟨a,h1,h2⟩:=kZ hx
   have h3:=T.UN n h (JLe.refl _) h1
   rw [hf] at h3
   rw [h3]
   have:Dz (u:=u) (some a)=Dz (t:=rty) (u:=u) (t.eval n (yP n l) rty.den (l7 as st) [fun vs=>qZ [rty] vs]):=by rw [h1]
   rw [this];exact hx
  ·cases hx
 ·rename_i e
  rw [if_neg e]
  exact h _ _ _ _ hx
theorem FZ:∀ {ts:List Ty} {x:tX ts},qZ ts (l7 ts x)=some x
 | [],_=>rfl
 | [t],x=>by simp [l7,qZ,yN]
 | t::u::ts,x=>by
  have h:yN t ⟨t,x.1⟩=some x.1:=by simp [yN]
  simp only [l7,qZ,h,FZ (ts:=u::ts)]
theorem UO {n g:Nat} {as:List Ty} {rty:Ty} {l:Trees} {F:Ei} {f:tX as→Option rty.den} (h:CLe (yP n l) (QL g as rty f F)) (st:tX as) {x:rty.den} (hx:yP n l g (l7 as st) rty=some x):f st=some x:=by
 have h1:=h _ _ _ _ hx
 unfold QL at h1
 rw [if_pos (Nat.beq_refl g)] at h1
 split at h1
 ·rename_i st' hst
  have e:=mZ hst
  obtain ⟨a,h2,h3⟩:=kZ h1
  cases h3
  rw [FZ] at hst
  cases hst
  exact h2
 ·cases h1
end Go.Tx
namespace Go.Tx
open Go Go.Ab
def Bg (P:Program) (tab:aaT) (pl:PlL) (hl:HlL) (sp:SpL) (g:Nat) (as:List Ty) (rty:Ty):T:=((XW ⟨P,zO tab,Sm pl,Sl hl,DI sp⟩ 3000 g as rty).map (·.1)).getD .fail
structure Lib (P:Program) where
 cf:Ei
 tab:aaT
 tr:Trees
 ok:Sj P cf
 le:CLe (yP 100 tr) cf
noncomputable def L0 (P:Program):Lib P:=⟨noC,[],[],ZU,QM 100⟩
variable {P:Program}
theorem X6 (L:Lib P) (hm:P.follows .mixedOrders=true) (g:Nat) (as:List Ty) (rty:Ty) (f:tX as→Option rty.den) (pl:PlL) (hl:HlL) (sp:SpL) (hsp:GK P (DI sp))
  (hf:∀ st,(Bg P L.tab pl hl sp g as rty).run L.cf rty.den (l7 as st) [fun vs=>qZ [rty] vs]=f st):QK P g as rty f:=by
 unfold Bg at hf
 cases h:XW ⟨P,zO L.tab,Sm pl,Sl hl,DI sp⟩ 3000 g as rty with
 | none =>
  rw [h] at hf
  have:∀ st,f st=none:=fun st=>by rw [← hf];rfl
  refine ⟨fun st r h=>?_,fun st r _ h=>?_⟩ <;> (rw [this] at h;cases h)
 | some q =>
  rw [h] at hf
  exact QK.of (C:=⟨P,zO L.tab,Sm pl,Sl hl,DI sp⟩) (lg:=q.2) hm hsp L.ok h hf
noncomputable def Lib.add (L:Lib P) (hm:P.follows .mixedOrders=true) (g:Nat) (as:List Ty) (rty:Ty) (f:tX as→Option rty.den) (pl:PlL) (hl:HlL) (sp:SpL) (hsp:GK P (DI sp))
  (hf:∀ st,(Bg P L.tab pl hl sp g as rty).run L.cf rty.den (l7 as st) [fun vs=>qZ [rty] vs]=f st) (hg:Nat.blt g 1000000=true:=by rfl):Lib P :=
 ⟨QL g as rty f L.cf,(g,as,rty)::L.tab,(g,as,rty,Bg P L.tab pl hl sp g as rty)::L.tr,X5 hg (X6 L hm g as rty f pl hl sp hsp hf) L.ok,Bf L.le hf⟩
end Go.Tx
namespace Go.Tx
open Go Go.Ab
variable {P:Program}
theorem ZW (L:Lib P) (hm:P.follows .mixedOrders=true) (g:Nat) (as:List Ty) (rty:Ty) (f:tX as→Option rty.den) (pl:PlL) (hl:HlL) (sp:SpL) (hsp:GK P (DI sp))
  (hf:∀ st,(Bg P L.tab pl hl sp g as rty).run L.cf rty.den (l7 as st) [fun vs=>qZ [rty] vs]=f st)
  (hc:(XW ⟨P,zO L.tab,Sm pl,Sl hl,DI sp⟩ 3000 g as rty).isSome=true) {st:tX as} {r:rty.den} (hr:bW (l7 as st)→f st=some r):kR P g ((l7 as st).map Val.d) (resD rty r):=by
 unfold Bg at hf
 cases h:XW ⟨P,zO L.tab,Sm pl,Sl hl,DI sp⟩ 3000 g as rty with
 | none=>rw [h] at hc;cases hc
 | some q =>
  rw [h] at hf
  have hf' : ∀ st,q.1.run L.cf rty.den (l7 as st) [fun vs=>qZ [rty] vs]=f st:=hf
  refine QJ (C:=⟨P,zO L.tab,Sm pl,Sl hl,DI sp⟩) (lg:=q.2) hm hsp h uP (fun hw=>?_)
  have hr:=hr hw
  rw [← hf'] at hr
  refine T.yO L.ok hw hr ?_
  intro j k vs hk hwv hkr
  cases j with
  | zero =>
   simp only [List.getElem?_cons_zero,Option.some.injEq] at hk
   subst hk
   exact mZ hkr
  | succ j=>simp at hk
end Go.Tx
namespace Go.Ab
open Go Go.RowKit
inductive Sh where
 | bool
 | int (k:IntKind)
 | sl (ag:Bool) (e:Sh)
 | row (fs:List Sh)
 deriving Inhabited
mutual
def Sh.size:Sh→Nat
 | .row fs=>Sh.ng fs
 | _=>1
def Sh.ng:List Sh→Nat
 | []=>0
 | f::fs=>f.size+Sh.ng fs
end
mutual
def vN:Sh→List D→Prop
 | .bool,ds=>∃ b,ds=[.v (.bool b)]
 | .int k,ds=>∃ n,ds=[.v (.int k n)]
 | .sl ag e,ds=>∃ xs:List D,ds=[.sl xs]∧∀ x∈xs,vN e x.cells∧(ag=true→∃ cs,x = .agg cs)∧(ag=false→x.cells=[x])
 | .row fs,ds=>yQ fs ds
def yQ:List Sh→List D→Prop
 | [],ds=>ds=[]
 | f::fs,ds=>∃ a b,ds=a++b∧vN f a∧yQ fs b
end
def Sh.flat:Sh→Bool
 | .row _=>false
 | _=>true
def ZX (F:TypeId→Option Sh) (P:Program):Nat→List Field→Option (List Sh)
 | _,[]=>some []
 | o,f::fs=>match F f.type with
  | some s=>if f.offset=o∧s.size=P.cellsOf f.type then (match ZX F P (o+s.size) fs with | some ss=>some (s::ss) | none=>none) else none
  | none=>none
def Sh.ofT (P:Program):Nat→TypeId→Option Sh
 | 0,_=>none
 | d+1,t=>match P.underlying t with
  | some .bool=>some .bool
  | some (.int k)=>some (.int k)
  | some (.slice e)=>match Sh.ofT P d e with
   | some s=>if s.size=P.cellsOf e∧0<s.size then some (.sl (!s.flat) s) else none
   | none=>none
  | some (.struct fs)=>match ZX (Sh.ofT P d) P 0 fs.toList with
   | some ss=>if Sh.ng ss=P.cellsOf t then some (.row ss) else none
   | none=>none
  | some (.array n e)=>match Sh.ofT P d e with
   | some s=>if s.size=P.cellsOf e∧n * s.size=P.cellsOf t then some (.row (List.replicate n s)) else none
   | none=>none
  | _=>none
def jK (w:World) (ds:List D) (cs:List Value):Prop:=∀ i (h:i<ds.length),fD w (fun _ _=>False) ds[i] (cs.getD i undef)∧leaf (cs.getD i undef)=true
theorem getD_drop {cs:List Value} {o i:Nat}:(cs.drop o).getD i undef=cs.getD (o+i) undef:=by
 simp only [List.getD_eq_getElem?_getD,List.getElem?_drop]
theorem MR {w:World} {a b:List D} {cs:List Value} {o:Nat} (h1:jK w a (cs.drop o)) (h2:jK w b (cs.drop (o+a.length))):jK w (a++b) (cs.drop o):=by
 intro i hi
 by_cases h:i<a.length
 ·rw [List.getElem_append_left h];exact h1 i h
 ·have hi' : i - a.length<b.length:=by simp at hi;omega
  have:=h2 (i - a.length) hi'
  rw [List.getElem_append_right (by omega)]
  rw [getD_drop] at this ⊢
  rw [show o+a.length+(i - a.length)=o+i by omega] at this
  exact this
theorem cat {w:World} {cs:List Value}:∀ (ss:List Sh) (o:Nat),(∀ j s,ss[j]? = some s→∃ ds:List D,ds.length=s.size∧jK w ds (cs.drop (o+Sh.ng (ss.take j)))∧vN s ds) →
  ∃ ds:List D,ds.length=Sh.ng ss∧jK w ds (cs.drop o)∧yQ ss ds:=by
 intro ss
 induction ss with
 | nil=>intro o _;exact ⟨[],rfl,fun i h=>by simp at h,by simp [yQ]⟩
 | cons s ss ih =>
  intro o h
  obtain ⟨a,a1,a2,a3⟩:=h 0 s rfl
  obtain ⟨b,b1,b2,b3⟩:=ih (o+s.size) (fun j s' hj=>by
   obtain ⟨ds,h1,h2,h3⟩:=h (j+1) s' (by simpa using hj)
   refine ⟨ds,h1,?_,h3⟩
   simp only [List.take_succ_cons,Sh.ng] at h2
   rw [← Nat.add_assoc] at h2;exact h2)
  simp only [List.take_zero,Sh.ng,Nat.add_zero] at a2
  exact ⟨a++b,by simp [Sh.ng,a1,b1],MR a2 (by rw [a1];exact b2),by rw [yQ];exact ⟨a,b,rfl,a3,b3⟩⟩
theorem UQ {F:TypeId→Option Sh} {P:Program}:∀ (fs:List Field) (o:Nat) (ss:List Sh),ZX F P o fs=some ss→ss.length=fs.length∧∀ j s,ss[j]? = some s→∃ f,fs[j]? = some f∧F f.type=some s∧s.size=P.cellsOf f.type∧f.offset=o+Sh.ng (ss.take j):=by
 intro fs
 induction fs with
 | nil=>intro o ss h;simp [ZX] at h;subst h;exact ⟨rfl,by simp⟩
 | cons f fs ih =>
  intro o ss h
  simp only [ZX] at h
  split at h
  ·rename_i s hs
   split at h
   ·rename_i hc
    split at h
    ·rename_i ss' hss
     cases h
     obtain ⟨h1,h2⟩:=ih _ _ hss
     refine ⟨by simp [h1],fun j s' hj=>?_⟩
     cases j with
     | zero=>simp at hj;subst hj;exact ⟨f,rfl,hs,hc.2,by simp [Sh.ng,hc.1]⟩
     | succ j =>
      obtain ⟨f',k1,k2,k3,k4⟩:=h2 j s' (by simpa using hj)
      exact ⟨f',by simpa using k1,k2,k3,by rw [k4];simp [Sh.ng];omega⟩
    ·cases h
   ·cases h
  ·cases h
theorem F5 (n:Nat) (s:Sh):Sh.ng (List.replicate n s)=n * s.size:=by
 induction n with
 | zero=>simp [Sh.ng]
 | succ n ih=>simp [List.replicate_succ,Sh.ng,ih,Nat.succ_mul,Nat.add_comm]
theorem Kt {w:World} {ds:List D} {cs:List Value} {n:Nat} (h:jK w ds (cs.take n)) (hl:ds.length=(cs.take n).length):jK w ds cs:=by
 intro i hi
 have:=h i hi
 have hin:i<n:=by
  rw [hl,List.length_take] at hi;omega
 rw [List.getD_eq_getElem?_getD,List.getElem?_take_of_lt hin,← List.getD_eq_getElem?_getD] at this
 exact this
theorem MS {ss:List Sh} {j:Nat} {s:Sh} (h:ss[j]? = some s):Sh.ng (ss.take j)+s.size≤Sh.ng ss:=by
 induction ss generalizing j with
 | nil=>simp at h
 | cons x ss ih =>
  cases j with
  | zero=>simp at h;subst h;simp [Sh.ng]
  | succ j=>have:=ih (j:=j) (by simpa using h);simp only [List.take_succ_cons,Sh.ng];omega
def zQ (ag:Bool) (ds:List D):D:=if ag then .agg ds else ds.headD default
theorem yR {s:Sh} {ds:List D} (h:vN s ds):(zQ (!s.flat) ds).cells=ds:=by
 cases s with
 | bool=>simp only [vN] at h;obtain ⟨b,rfl⟩:=h;rfl
 | int k=>simp only [vN] at h;obtain ⟨b,rfl⟩:=h;rfl
 | sl ag e=>simp only [vN] at h;obtain ⟨b,rfl,_⟩:=h;rfl
 | row fs=>rfl
theorem QN {s:Sh} {ds:List D} (hs:s.flat=true) (h:vN s ds):(zQ (!s.flat) ds).cells=[zQ (!s.flat) ds]:=by
 cases s with
 | bool=>simp only [vN] at h;obtain ⟨b,rfl⟩:=h;rfl
 | int k=>simp only [vN] at h;obtain ⟨b,rfl⟩:=h;rfl
 | sl ag e=>simp only [vN] at h;obtain ⟨b,rfl,_⟩:=h;rfl
 | row fs=>simp [Sh.flat] at hs
theorem UR {H:Type} {enc:TypeId×Value→H} {P:Program} {w:World} {spare:Nat→Bool} {held:Bool}:∀ (dep:Nat) (t:TypeId) (sh:Sh),Sh.ofT P dep t=some sh→∀ (fuel:Nat) (cs:List Value) (x:DataW H×List MemPlace),
  DataW.trod enc P w 0 spare held fuel t cs=some x→∃ ds:List D,ds.length=cs.length∧jK w ds cs∧vN sh ds:=by
 intro dep
 induction dep with
 | zero=>intro t sh h;simp [Sh.ofT] at h
 | succ dep ih =>
  intro t sh h fuel cs x hx
  simp only [Sh.ofT] at h
  split at h
  ·rename_i hu
   cases h
   obtain ⟨b,rfl,_⟩:=DataW.trod_bool hu hx
   exact ⟨[.v (.bool b)],rfl,fun i hi=>by
    have:i=0:=by simpa using hi
    subst this;exact ⟨.v trivial,rfl⟩,by simp [vN]⟩
  ·rename_i k hu
   cases h
   obtain ⟨b,rfl,_,h2⟩:=DataW.trod_int hu hx
   refine ⟨[.v (.int k b)],rfl,fun i hi=>?_,by simp [vN]⟩
   have:i=0:=by simpa using hi
   subst this
   refine ⟨.v ?_,rfl⟩
   cases k <;> simp_all [dJ,inR,Lit.wf,IntKind.min,IntKind.max,IntKind.signed,IntKind.bits]
  ·rename_i e hu
   split at h
   ·rename_i s hs
    split at h
    ·rename_i hc
     cases h
     rcases DataW.trod_slice hu hx with ⟨rfl,_⟩ | ⟨a,len,cap,elems,rest,m,rfl,rfl,_,hb,hlc,hcm,hel,helems,_⟩
     ·refine ⟨[.sl []],rfl,fun i hi=>?_,by simp [vN]⟩
      have:i=0:=by simpa using hi
      subst this
      exact ⟨fD.sl (xs:=[]) (a:=none) (cap:=0) 0 0 0 (fun _ _=>undef) (by simp) (by simp) (by simp) (by simp) (by simp) (by simp),rfl⟩
     ·have hE:∀ i,∃ p:List Value×List D,i<len→w.cells? 0 (a.add (i * P.cellsOf e)) (P.cellsOf e)=some p.1∧p.2.length=p.1.length∧jK w p.2 p.1∧vN s p.2:=by
       intro i
       by_cases hi:i<len
       ·have h1:=helems i hi
        rw [List.getElem?_eq_getElem (by omega)] at h1
        obtain ⟨ecs,h2,h3⟩:=Option.bind_eq_some_iff.1 h1
        obtain ⟨ds,k1,k2,k3⟩:=ih e s hs m ecs _ h3
        exact ⟨(ecs,ds),fun _=>⟨h2,k1,k2,k3⟩⟩
       ·exact ⟨([],[]),fun h=>absurd h hi⟩
      obtain ⟨E,hE⟩:=Classical.axiomOfChoice hE
      have hcell:∀ i,i<len→∀ j,j<P.cellsOf e→w.cell? ((a.add (i * P.cellsOf e)).add j)=some ((E i).1.getD j undef)∧(E i).1.length=P.cellsOf e:=by
       intro i hi j hj
       obtain ⟨_,h2,h3⟩:=World.cells?_some (hE i hi).1
       refine ⟨?_,h2⟩
       rw [h3 j hj,List.getD_eq_getElem?_getD,List.getElem?_eq_getElem (by omega)];rfl
      have hpos:0<P.cellsOf e:=by omega
      have hspot:0<len→a.spot=none:=by
       intro hl
       have h1:=(hcell 0 hl 0 hpos).1
       unfold World.cell? at h1
       split at h1
       ·split at h1
        ·cases h1
        ·rename_i hsp
         simp only [Addr.add] at hsp
         simpa using hsp
       ·cases h1
      refine ⟨[.sl ((List.range len).map fun i=>zQ (!s.flat) (E i).2)],rfl,fun i hi=>?_,?_⟩
      ·have:i=0:=by simpa using hi
       subst this
       refine ⟨?_,rfl⟩
       have key:∀ i (hi:i<((List.range len).map fun i=>zQ (!s.flat) (E i).2).length),(((List.range len).map fun i=>zQ (!s.flat) (E i).2)[i]).cells=(E i).2∧i<len:=by
        intro i hi
        have hi' : i<len:=by simpa using hi
        simp only [List.getElem_map,List.getElem_range]
        exact ⟨yR (hE i hi').2.2.2,hi'⟩
       have hlen:((List.range len).map fun i=>zQ (!s.flat) (E i).2).length=len:=by simp
       have:=fD.sl (w:=w) (M:=fun _ _=>False) (xs:=(List.range len).map fun i=>zQ (!s.flat) (E i).2) (a:=some a) (cap:=cap) (P.cellsOf e) a.block a.off (fun i j=>(E i).1.getD j undef)
        (by rw [hlen];exact hlc) (by rw [hlen];have:maxLen=9223372036854775807:=rfl;omega)
        (fun hne=>by
         have hl:0<len:=by
          rcases Nat.eq_zero_or_pos len with h0 | h0
          ·exact absurd (by simp [h0]) hne
          ·exact h0
         have:=hspot hl
         cases a;simp_all)
        (fun i hi=>by
         obtain ⟨k1,k2⟩:=key i hi
         rw [k1,(hE i k2).2.1,(hcell i k2 0 hpos).2])
        (fun i hi j hj=>by
         obtain ⟨k1,k2⟩:=key i hi
         rw [k1] at hj
         have hj' : j<P.cellsOf e:=by rw [← (hcell i k2 0 hpos).2,← (hE i k2).2.1];exact hj
         have h1:=(hcell i k2 j hj').1
         refine ⟨?_,((hE i k2).2.2.1 j hj).2,fun h=>h.elim⟩
         have hsp:=hspot (by omega)
         have e1:(a.add (i * P.cellsOf e)).add j=⟨a.block,a.off+i * P.cellsOf e+j,none⟩:=by
          clear h1 hx helems hE hcell hspot key
          obtain ⟨bl,of,sp⟩:=a
          simp only at hsp
          subst hsp
          generalize i * P.cellsOf e=q
          simp only [Addr.add]
          by_cases q0:q=0 <;> by_cases j0:j=0 <;> simp [q0,j0] <;> omega
         rw [← e1];exact h1)
        (fun i hi j hj=>by
         obtain ⟨k1,k2⟩:=key i hi
         have hj2:j<(E i).2.length:=by rw [k1] at hj;exact hj
         have e2:((((List.range len).map fun i=>zQ (!s.flat) (E i).2)[i]).cells)[j]=(E i).2[j]:=by simp only [k1]
         rw [e2];exact ((hE i k2).2.2.1 j hj2).1)
       rw [hlen] at this
       exact this
      ·simp only [vN]
       refine ⟨_,rfl,fun x hx=>?_⟩
       obtain ⟨i,hi,rfl⟩:=List.mem_map.1 hx
       have hi' : i<len:=by simpa using hi
       refine ⟨by rw [yR (hE i hi').2.2.2];exact (hE i hi').2.2.2,fun hag=>⟨(E i).2,by simp [zQ,hag]⟩,fun hag=>QN (by simpa using hag) (hE i hi').2.2.2⟩
    ·cases h
   ·cases h
  ·rename_i fs hu
   split at h
   ·rename_i ss hss
    split at h
    ·rename_i hc
     cases h
     obtain ⟨xs,m,rfl,_,hl,hxl,hfs⟩:=DataW.trod_struct hu hx
     obtain ⟨h1,h2⟩:=UQ _ _ _ hss
     obtain ⟨ds,k1,k2,k3⟩:=cat (w:=w) (cs:=cs) ss 0 (fun j s hj=>by
      obtain ⟨f,f1,f2,f3,f4⟩:=h2 j s hj
      have f1' : fs[j]? = some f:=by simpa using f1
      have h3:=hfs j f f1'
      have hjl:j<xs.length:=by rw [hxl];exact (Array.getElem?_eq_some_iff.1 f1').1
      rw [List.getElem?_eq_getElem hjl] at h3
      obtain ⟨ds,d1,d2,d3⟩:=ih f.type s f2 m _ _ h3
      have hlen:ds.length=s.size:=by
       rw [d1,f3,List.length_take,List.length_drop]
       have:f.offset+s.size≤cs.length:=by
        rw [hl,← hc,f4,Nat.zero_add]
        exact MS hj
       omega
      refine ⟨ds,hlen,?_,d3⟩
      rw [← f4]
      exact Kt d2 d1)
     exact ⟨ds,by rw [k1,hl,hc],by simpa using k2,by simpa [vN] using k3⟩
    ·cases h
   ·cases h
  ·rename_i n e hu
   split at h
   ·rename_i s hs
    split at h
    ·rename_i hc
     cases h
     obtain ⟨xs,m,rfl,_,hl,hxl,hfs⟩:=DataW.trod_array hu hx
     obtain ⟨ds,k1,k2,k3⟩:=cat (w:=w) (cs:=cs) (List.replicate n s) 0 (fun j s' hj=>by
      have hjn:j<n:=by
       have:=(List.getElem?_eq_some_iff.1 hj).1;simpa using this
      have hss:s' = s:=by
       rw [List.getElem?_replicate] at hj;simp [hjn] at hj;exact hj.symm
      subst hss
      have h3:=hfs j hjn
      rw [List.getElem?_eq_getElem (by omega)] at h3
      obtain ⟨ds,d1,d2,d3⟩:=ih e s' hs m _ _ h3
      have hoff:Sh.ng ((List.replicate n s').take j)=j * P.cellsOf e:=by
       rw [List.take_replicate,F5,hc.1,Nat.min_eq_left (by omega)]
      have hlen:ds.length=s'.size:=by
       rw [d1,hc.1,List.length_take,List.length_drop]
       have:(j+1) * P.cellsOf e≤n * P.cellsOf e:=Nat.mul_le_mul_right _ hjn
       have h4:=hc.2
       rw [hc.1] at h4
       rw [Nat.succ_mul] at this
       omega
      refine ⟨ds,hlen,?_,d3⟩
      rw [Nat.zero_add,hoff]
      exact Kt d2 d1)
     exact ⟨ds,by rw [k1,hl,F5,hc.2],by simpa using k2,by simpa [vN] using k3⟩
    ·cases h
   ·cases h
  ·cases h
theorem IL {H:Type} {enc:TypeId×Value→H} {P:Program} {w:World} {spare:Nat→Bool} {held:Bool} {r:Reach} {b0 dep:Nat} {t:TypeId} {fs:Array Field} {sh:Sh} {v:Value} {d:DataW H} {ps:List MemPlace}
  (hsh:Sh.ofT P dep t=some sh) (ht:P.underlying t=some (.struct fs)) (hval:Value.okWide P w r b0 t v) (hd:DataW.Trod enc P w 0 spare held t v d ps) :
  ∃ ds:List D,vN sh ds∧fD w (fun _ _=>False) (.agg ds) v:=by
 unfold Value.okWide at hval
 rw [ht] at hval
 obtain ⟨cs,rfl,_,_⟩:=hval
 obtain ⟨fuel,h⟩:=hd
 obtain ⟨ds,h1,h2,h3⟩:=UR dep t sh hsh fuel _ _ h
 simp only [Value.cells] at h1 h2
 have e:∀ i,cs.getD i undef=cs.toList.getD i undef:=fun i=>by
  simp [Array.getD_eq_getD_getElem?,List.getD_eq_getElem?_getD]
 refine ⟨ds,h3,.agg (by simp [h1]) (fun i hi=>?_) (fun i hi=>?_)⟩
 ·rw [e];exact (h2 i hi).2
 ·rw [e];exact (h2 i hi).1
end Go.Ab
namespace Go.Tx
open Go Go.Ab Go.ChangeShapes Go.WideShapes Go.ChangeAt Go.RowKit
mutual
def fits:Sh→Ty→Bool
 | .bool,.bool=>true
 | .int k,.int q=>decide (k=q)
 | .sl ag e,.sl t=>fits e t&&(match t.ag with | some b=>decide (ag=b) | none=>false)
 | .row fs,.st a=>MV fs a
 | .row fs,.arr n t=>Nat.beq fs.length n&&UU fs t
 | _,_=>false
def MV:List Sh→Ty→Bool
 | [],.unit=>true
 | f::fs,.prod a b=>fits f a&&MV fs b
 | _,_=>false
def UU:List Sh→Ty→Bool
 | [],_=>true
 | f::fs,t=>fits f t&&UU fs t
end
theorem QO {t:Ty} (l:List t.den):(List.finRange l.length).flatMap (fun i=>enc t l[i])=l.flatMap (enc t):=by
 have:(List.finRange l.length).map (fun i=>l[i])=l:=by
  apply List.ext_getElem
  ·simp
  ·intro i h1 h2;simp
 conv=>rhs;rw [← this]
 rw [List.flatMap_map]
mutual
theorem tq:∀ (sh:Sh) {t:Ty} {ds:List D},fits sh t=true→vN sh ds→∃ a:t.den,ds=enc t a
 | .bool,t,ds,h,hc=>by
  cases t with
  | bool=>simp only [vN] at hc;obtain ⟨b,rfl⟩:=hc;exact ⟨b,rfl⟩
  | _=>simp [fits] at h
 | .int k,t,ds,h,hc=>by
  cases t with
  | int q =>
   simp only [fits,decide_eq_true_eq] at h
   subst h
   simp only [vN] at hc;obtain ⟨b,rfl⟩:=hc;exact ⟨b,rfl⟩
  | _=>simp [fits] at h
 | .sl ag e,t,ds,h,hc=>by
  cases t with
  | sl t =>
   simp only [fits,Bool.and_eq_true] at h
   simp only [vN] at hc
   obtain ⟨xs,rfl,hx⟩:=hc
   have key:∀ xs:List D,(∀ x∈xs,vN e x.cells∧(ag=true→∃ cs,x = .agg cs)∧(ag=false→x.cells=[x]))→∃ l:List t.den,xs=l.map fun a=>jw t (enc t a):=by
    intro xs
    induction xs with
    | nil=>intro _;exact ⟨[],rfl⟩
    | cons x xs ih =>
     intro hx
     obtain ⟨l,rfl⟩:=ih fun z hz=>hx z (List.mem_cons_of_mem _ hz)
     obtain ⟨h1,h2,h3⟩:=hx x List.mem_cons_self
     obtain ⟨a,ha⟩:=tq e h.1 h1
     refine ⟨a::l,?_⟩
     simp only [List.map_cons,List.cons.injEq,and_true]
     have hag:=h.2
     unfold jw
     cases hg:t.ag with
     | none=>rw [hg] at hag;cases hag
     | some b =>
      rw [hg] at hag
      simp only [decide_eq_true_eq] at hag
      subst hag
      cases ag with
      | true =>
       obtain ⟨cs,rfl⟩:=h2 rfl
       simp only [← ha];rfl
      | false =>
       simp only [← ha,h3 rfl];rfl
   obtain ⟨l,rfl⟩:=key xs hx
   exact ⟨l,rfl⟩
  | _=>simp [fits] at h
 | .row fs,t,ds,h,hc=>by
  rw [vN] at hc
  cases t with
  | st a =>
   simp only [fits] at h
   obtain ⟨x,hx⟩:=Bh fs (t:=a) h hc
   exact ⟨x,hx⟩
  | arr n t =>
   simp only [fits,Bool.and_eq_true] at h
   have e:=Nat.eq_of_beq_eq_true h.1
   obtain ⟨l,hl,rfl⟩:=Bj fs h.2 hc
   subst e
   subst_vars
   refine ⟨fun i=>l[i.1]'(by rw [hl];exact i.2),?_⟩
   rw [← QO l]
   simp only [enc]
   obtain ⟨k,hk⟩:∃ k,k=l.length:=⟨_,rfl⟩
   have:∀ (k:Nat) (hk:l.length=k),(List.finRange l.length).flatMap (fun i=>enc t l[i])=(List.finRange k).flatMap (fun i=>enc t (l[i.1]'(by rw [hk];exact i.2))):=by
    intro k hk;subst hk;rfl
   exact this _ hl
  | _=>simp [fits] at h
theorem Bh:∀ (fs:List Sh) {t:Ty} {ds:List D},MV fs t=true→yQ fs ds→∃ a:t.den,ds=enc t a
 | [],t,ds,h,hc=>by
  cases t with
  | unit=>simp only [yQ] at hc;subst hc;exact ⟨(),rfl⟩
  | _=>simp [MV] at h
 | f::fs,t,ds,h,hc=>by
  cases t with
  | prod a b =>
   simp only [MV,Bool.and_eq_true] at h
   rw [yQ] at hc
   obtain ⟨u,v,rfl,h1,h2⟩:=hc
   obtain ⟨x,rfl⟩:=tq f h.1 h1
   obtain ⟨y,rfl⟩:=Bh fs h.2 h2
   exact ⟨(x,y),rfl⟩
  | _=>simp [MV] at h
theorem Bj:∀ (fs:List Sh) {t:Ty} {ds:List D},UU fs t=true→yQ fs ds→∃ l:List t.den,l.length=fs.length∧ds=l.flatMap (enc t)
 | [],t,ds,h,hc=>by simp only [yQ] at hc;subst hc;exact ⟨[],rfl,rfl⟩
 | f::fs,t,ds,h,hc=>by
  simp only [UU,Bool.and_eq_true] at h
  rw [yQ] at hc
  obtain ⟨u,v,rfl,h1,h2⟩:=hc
  obtain ⟨x,rfl⟩:=tq f h.1 h1
  obtain ⟨l,hl,rfl⟩:=Bj fs h.2 h2
  exact ⟨x::l,by simp [hl],by simp⟩
end
section
variable {P:Program} {H:Type} {enc:TypeId×Value→H}
theorem DJ {f:Func} {s:ChangeSpec} {apart fresh handsOn again:Bool} {W W' : World} {args:Array Value} {v:Value} {ds gs:List (DataW H)} {before pa pv:List MemPlace}
  (hW:DataW.Whole enc P f.params.toList s.vars apart W args.toList ds gs before)
  (hres:∀ (b:Nat) (sp:Nat→Bool) (hd:Bool),DataW.TrodAll enc P W' b sp hd f.resultTypes.toList (v.resultList f.resultTypes.size) (s.fn H (ds++gs)).results [])
  (hargs:∀ sp:Nat→Bool,(∀ p∈before,sp p.block=true)→DataW.TrodAll enc P W' 0 sp true f.params.toList args.toList (s.fn H (ds++gs)).args pa)
  (hvars:∀ sp:Nat→Bool,(∀ p∈before,sp p.block=true)→DataW.TrodVars enc P W' sp s.vars (s.fn H (ds++gs)).vars pv)
  (hps:before=pa++pv) (hb:Below W.heap.size W W')
  (hok:∀ (j:Nat) (t:TypeId) (r:Value),f.resultTypes[j]? = some t→(v.resultList f.resultTypes.size)[j]? = some r→Value.okWide P W' .any 0 t r) :
  s.post enc P f apart fresh handsOn again W args v W':=by
 have hold:∀ p∈before,(fun b=>decide (b<W.heap.size)) p.block=true:=fun p hp=>by simpa using hW.lt p hp
 have hlt:∀ p∈before,p.block<W.heap.size:=fun p hp=>hW.lt p hp
 refine ⟨ds,gs,before,[],pa,pv,hW,hres _ _ _,hargs _ hold,hvars _ hold,World.keptBut_mono (fun p hp=>⟨hp,?_⟩) (hb.frame (· ∈ before)),fun _=>?_⟩
 ·rw [hps,List.mem_append] at hp
  exact Or.inr hp
 ·obtain ⟨_,_,_,_,_,hz,hn⟩:=hW
  refine ⟨hok,_,_,([]++pa)++pv,⟨[]++pa,pv,trodAll_append (hargs _ (fun _ _=>rfl)) (hres _ _ _),hvars _ (fun _ _=>rfl),rfl,?_,?_⟩,?_⟩
  ·intro b off hp
   have hp' : MemPlace.cell b off∈before:=by rw [hps];simpa using hp
   rw [hb.frozen (hlt _ hp')]
   exact hz b off hp'
  ·intro ha
   have:=hn ha
   rw [hps] at this
   simpa using this
  ·intro p hp _
   rw [hps]
   simpa using hp
theorem DK {f:FuncId} {ds:List D} {b:Bool} {vs:Array Value} {w:World} (h:kR P f ds [.b b]) (hs:vs.size=ds.length)
  (hr:∀ i (hi:i<ds.length),fD w (fun _ _=>False) ds[i] (vs.getD i undef)):Calls P f vs w fun e w'=>e = .returned (.bool b)∧Below w.heap.size w w':=by
 refine (callsIn_wide (n:=0)).1 (CallsIn.mono (h (fun _ _=>False) w 0 vs (fun _ _ hf=>hf.elim) hs hr) ?_)
 rintro e w' ⟨c,rfl,hb,hv⟩
 refine ⟨?_,hb⟩
 have h1:=hv ⟨fun _=>0,fun _=>(0,0,0),fun _=>0,fun _=>(none,0,0)⟩
 simp only [List.map_cons,List.map_nil,iU] at h1
 rw [h1.val.1]
theorem Ku {w:World} {M:Cells} {k:IntKind} {n:Int} (h:(Lit.int k n).wf=true):fD w M (.v (.int k n)) (.int k n):=by
 refine .v ?_
 cases k <;> simp_all [dJ,inR,Lit.wf,IntKind.min,IntKind.max,IntKind.signed,IntKind.bits]
theorem X7 {w:World} {spare:Nat→Bool} {held:Bool} {r:Reach} {b0 dep:Nat} {t:TypeId} {tt:Ty} {fs:Array Field} {sh:Sh} {v:Value} {d:DataW H} {ps:List MemPlace}
  (hsh:Sh.ofT P dep t=some sh) (hf:fits sh tt=true) (hag:tt.ag=some true) (ht:P.underlying t=some (.struct fs)) (hval:Value.okWide P w r b0 t v) (hd:DataW.Trod enc P w 0 spare held t v d ps) :
  ∃ a:tt.den,fD w (fun _ _=>False) (bD tt a) v:=by
 obtain ⟨ds,h1,h2⟩:=IL hsh ht hval hd
 obtain ⟨a,rfl⟩:=tq sh hf h1
 exact ⟨a,by unfold bD jw;rw [hag];exact h2⟩
end
end Go.Tx
namespace Go.Tx
open Go Go.Ab
theorem Bl {P:Program} {rs:List ResultVar} {rt:List TypeId} {w rty:Ty}:∀ {L:List Leaf} {ts:List T},Dn P rs rt w rty L=some ts→ts.length=L.length∧∀ (i:Nat) (lf:Leaf),L[i]? = some lf→∃ zs es q,resV P lf.s rs=some zs∧XV P rt zs=some es∧(GL es).1=rty∧aj nm0 lf.s.vc=some (w,q)∧J5 lf.s=true∧ts[i]? = some (.jump 0 [.p2 .pair q (GL es).2])
 | [],ts,h=>by cases h;exact ⟨rfl,fun i lf h=>by simp at h⟩
 | lf::L,ts,h=>by
  simp only [Dn] at h
  split at h
  ·rename_i zs u q hzs hq
   split at h
   ·rename_i es hes
    split at h
    ·rename_i hc
     obtain ⟨c1,rfl,c3⟩:=hc
     obtain ⟨ts',h1,rfl⟩:=Option.map_eq_some_iff.1 h
     obtain ⟨k1,k2⟩:=Bl h1
     refine ⟨by simp [k1],fun i lf' hl=>?_⟩
     cases i with
     | zero=>simp at hl;subst hl;exact ⟨zs,es,q,hzs,hes,c1,hq,c3,by simp⟩
     | succ i=>simpa using k2 i lf' (by simpa using hl)
    ·cases h
   ·cases h
  ·cases h
theorem X8 {w:Ty} {xs:List w.den} {us:List Val}:Inst (⟨.sl w,xs⟩::us) (ZM w (us.map (·.1))) (sbT w.size (xs.map (bD w))) :=
 ⟨rfl,rfl,rfl,⟨_,[],rfl,rfl,rfl⟩,rfl,rfl,rfl,rfl,⟨xs,[],rfl,rfl,rfl⟩⟩
theorem QS {w:Ty} {xs:List w.den} {us:List Val}:aB (⟨.sl w,xs⟩::us) (.vsl nm0::Qs 1 (us.map (·.1))) (.vsl nm0::(us.map Val.d).map .d) :=
 ⟨_,_,rfl,rfl,by
  have:=DC us [⟨.sl w,xs⟩]
  simp only [List.singleton_append,List.length_singleton] at this
  rw [List.map_map]
  exact this⟩
theorem QT {env:List Val} {y:Sy} {s:Sa} (h:J5 y=true) (hI:Inst env y s):s.sv.length=1∧lpD s.lp=[]∧lkT 0 s.pop.ts = .vsl nm0:=by
 unfold J5 at h
 split at h
 ·rename_i f hf
  rw [Bool.and_eq_true,decide_eq_true_eq] at h
  have hl:=hI.sv.len
  rw [hf] at hl
  refine ⟨hl,by rw [hI.lp];exact h.2,?_⟩
  have hp:=hI.pop
  have:=hp.ts.lk (t:=0)
  have e:y.pop.ts=f.ts:=by simp [Sy.pop,hf]
  rw [e] at this
  revert this
  have h1:=h.1
  split at h1
  ·rename_i n hn
   rw [decide_eq_true_eq] at h1
   subst h1
   rw [hn]
   intro h;exact h
  ·cases h1
 ·cases h
theorem MW {w:Ty} {xs:List w.den} (hn:w.LW=true) (hl:xs.length≤9223372036854775807) (h:∀ j (hj:j<(bg (xs.map (bD w))).length),((bg (xs.map (bD w)))[j]).wf):Val.wf ⟨.sl w,xs⟩:=by
 refine gG.2 ⟨hl,fun x hx=>Val.Hr hn ?_⟩
 show (bD w x).wf
 refine WU fun y hy=>?_
 have:y∈bg (xs.map (bD w)):=by
  rw [CY]
  exact List.mem_flatMap.2 ⟨x,hx,hy⟩
 obtain ⟨j,hj,rfl⟩:=List.mem_iff_getElem.1 this
 exact h j hj
theorem X9 {C:Cx} (hm:C.P.follows .mixedOrders=true) (hsp:GK C.P C.sp) {n g:Nat} {w:Ty} {as:List Ty} {rty:Ty} {t:T} {lg:Log} (h:ZN C n g w as rty=some (t,lg)) {xs:List w.den} {us:List Val} (hvs:us.map (·.1)=as) {ys:List w.den} {r:rty.den}
  (hs:bW (⟨.sl w,xs⟩::us)→t.sat (dF C.P) (kE (fun vs=>vs=[⟨.prod (.sl w) rty,(ys,r)⟩]) noJ) (fun _ _=>False) (⟨.sl w,xs⟩::us)):Oq C.P g w.size (xs.map (bD w)) (us.map Val.d) (ys.map (bD w)) (resD rty r):=by
 subst hvs
 unfold ZN at h
 split at h
 ·rename_i fn hfn
  split at h
  ·rename_i cb hcb
   split at h
   ·rename_i hle
    split at h
    ·rename_i r0 h0
     split at h
     ·rename_i r1 h1
      split at h
      ·rename_i ts hts
       cases h
       intro Mo m sa w0 cnt vs rr hR hargs
       have hw:bW (⟨.sl w,xs⟩::us):=by
        intro v hv
        rcases List.mem_cons.1 hv with rfl | hv
        ·have hv:=(hR.vec nm0 (w.size,xs.map (bD w)) (by simp [sbT,aj])).2
         refine MW hle.2.1 (by have:=hv.mx;simpa using this) fun j hj=>?_
         obtain ⟨c,_,_,g3⟩:=hv.cells j hj
         exact g3.wf
        ·obtain ⟨i,hi,rfl⟩:=List.mem_iff_getElem.1 hv
         refine Val.Hr ?_ ?_
         ·have:=List.all_eq_true.1 hle.2.2 us[i].1 (List.mem_map_of_mem (List.getElem_mem hi))
          exact this
         ·have:=hargs.2 (i+1) (by simp;omega)
          simp only [List.getElem_cons_succ,List.getElem_map] at this
          cases this with
          | d h=>exact h.wf
       refine vJ (P:=C.P) (p:=[]) [0] hfn hcb (by have:=hle.1;simp only [List.length_map] at this;simp only [List.length_cons,List.length_map];exact this) (fV ?_) Mo m sa w0 cnt vs rr hR hargs
       have H:=jq hm hsp _ _ _ _ _ _ h0
       refine H.go _ _ (X8.push fn.ntmps QS) hw _ ?_
       have k0:=hs hw
       rw [T.uG,T.mV,mW] at k0
       obtain ⟨hlen,k1⟩:=Bl hts
       have k2:r1.t.sat (dF C.P) noJ (LQ r1.L (iL fun _ s'=>s'.sv.length=1∧lpD s'.lp=[]∧G7 C.P s' fn.results.toList fun zs=>Zj w.size (ys.map (bD w)) (resD rty r) (iU zs) s'.pop)) (⟨.sl w,xs⟩::us):=by
        refine T.aW (fun _ _ h=>h) ?_ k0
        intro i e hq
        cases htt:ts[i]? with
        | none=>simp [List.getD_eq_getElem?_getD,htt,T.sat] at hq
        | some tt =>
         have hi:i<r1.L.length:=by have:=(List.getElem?_eq_some_iff.1 htt).1;rw [hlen] at this;exact this
         obtain ⟨zs,es,q,q1,q2,q3,q4,q5,q6⟩:=k1 i r1.L[i] (List.getElem?_eq_getElem hi)
         rw [htt] at q6
         cases q6
         simp only [List.getD_eq_getElem?_getD,htt,Option.getD_some,T.sat] at hq
         obtain ⟨vs',u1,u2⟩:=hq
         have u2:vs' = [⟨.prod (.sl w) rty,(ys,r)⟩]:=u2
         subst u2
         refine ⟨r1.L[i],List.getElem?_eq_getElem hi,fun s' hs'=>?_⟩
         obtain ⟨b1,b2,b3⟩:=QT q5 hs'
         refine ⟨b1,b2,yG q1 hs' fun ws hws=>?_⟩
         obtain ⟨vals,v1,v2,v3,v4⟩:=IJ q2 hws
         obtain ⟨a,a1,a2⟩:=IK v1 v2 v4
         obtain ⟨al,c1,c2⟩:=(hs'.vc.look).1 q4
         simp only [evs] at u1
         split at u1
         ·rename_i v vs'' w1 w2
          cases w2
          simp only [Option.some.injEq,List.cons.injEq,and_true] at u1
          subst u1
          have e1:(E.p2 .pair q (GL es).2).val e=some ⟨.prod (.sl w) (GL es).1,(al,a)⟩:=by
           show Jw (.pair) (q.val e) ((GL es).2.val e)=_
           rw [c1,a1];rfl
          rw [e1] at w1
          simp only [Option.some.injEq] at w1
          have hk:∀ {rty2:Ty} {a:rty2.den} {rty:Ty} {r:rty.den},(⟨.prod (.sl w) rty2,(al,a)⟩:Val)=⟨.prod (.sl w) rty,(ys,r)⟩→al=ys∧resD rty2 a=resD rty r:=by
           intro rty2 a rty r h
           cases h;exact ⟨rfl,rfl⟩
          obtain ⟨x1,x2⟩:=hk w1
          refine ⟨?_,b3,ws,rfl,?_⟩
          ·have e2:s'.pop.vc=s'.vc:=by unfold Sa.pop;split <;> rfl
           rw [e2,c2,x1]
          ·rw [v3,← a2,x2]
         ·cases u1
       refine iY ?_ (wK h1 k2)
       rintro lf _ e hq s' hs'
       obtain ⟨g1,g2,g3,g4⟩:=hq s' hs'
       exact ⟨s',Wk.refl,g1,g2,g3,g4⟩
      ·cases h
     ·cases h
    ·cases h
   ·cases h
  ·cases h
 ·cases h
structure QU (P:Program) (g:Nat) (w:Ty) (as:List Ty) (rty:Ty) (F:tX (.sl w::as)→Option (Ty.prod (.sl w) rty).den):Prop where
 ok:∀ st r,bW (l7 (.sl w::as) st)→F st=some r→dF P (g+1000000) (l7 (.sl w::as) st) ⟨.prod (.sl w) rty,r⟩
theorem QV {w:Ty}:∀ {as:List Ty} {st:tX (.sl w::as)},∃ (xs:List w.den) (us:List Val),l7 (.sl w::as) st=⟨.sl w,xs⟩::us∧us.map (·.1)=as
 | [],st=>⟨st,[],rfl,rfl⟩
 | a::as,st=>⟨st.1,l7 (a::as) st.2,rfl,uP⟩
theorem QU.of {C:Cx} {n g:Nat} {w:Ty} {as:List Ty} {rty:Ty} {t:T} {lg:Log} {F:Ei} {f:tX (.sl w::as)→Option (Ty.prod (.sl w) rty).den} (hm:C.P.follows .mixedOrders=true) (hsp:GK C.P C.sp) (hF:Sj C.P F) (h:ZN C n g w as rty=some (t,lg))
  (hf:∀ st,t.run F (Ty.prod (.sl w) rty).den (l7 (.sl w::as) st) [fun vs=>qZ [.prod (.sl w) rty] vs]=f st):QU C.P g w as rty f:=by
 have key:∀ st r,f st=some r→bW (l7 (.sl w::as) st)→t.sat (dF C.P) (kE (fun us=>us=[⟨.prod (.sl w) rty,r⟩]) noJ) (fun _ _=>False) (l7 (.sl w::as) st):=by
  intro st r hr hw
  rw [← hf] at hr
  refine T.yO hF hw hr ?_
  intro j k vs hk hwv hkr
  cases j with
  | zero =>
   simp only [List.getElem?_cons_zero,Option.some.injEq] at hk
   subst hk
   exact mZ hkr
  | succ j=>simp at hk
 refine ⟨fun st r hw hr=>Ub rfl ?_ ?_⟩
 ·obtain ⟨xs,us,e1,e2⟩:=QV (w:=w) (as:=as) (st:=st)
  obtain ⟨ys,r⟩:=r
  have hk:=key st (ys,r) hr
  rw [e1] at hk ⊢
  exact ⟨w,xs,us,rty,ys,r,rfl,rfl,X9 hm hsp h e2 hk⟩
 ·refine FX (CS:=dF C.P) (t:=t) (env:=l7 (.sl w::as) st) (T.aW ?_ ?_ (T.uH dI hw (key st r hr hw)))
  ·intro j vs ⟨h1,h2⟩
   cases j with
   | zero=>have h2:vs=[⟨.prod (.sl w) rty,r⟩]:=h2;subst h2;exact h1 _ List.mem_cons_self
   | succ j=>exact h2.elim
  ·intro i e h;exact h.2.2.elim
theorem Ya {P:Program} {g:Nat} {w:Ty} {as:List Ty} {rty:Ty} {f:tX (.sl w::as)→Option (Ty.prod (.sl w) rty).den} {F:Ei} (h:QU P g w as rty f) (hF:Sj P F):Sj P (QL (g+1000000) (.sl w::as) (.prod (.sl w) rty) f F):=by
 intro g' vs t x hw hx
 unfold QL at hx
 split at hx
 ·rename_i e
  have e:=Nat.eq_of_beq_eq_true e
  subst e
  split at hx
  ·rename_i st hst
   have e:=mZ hst
   subst e
   obtain ⟨a,h1,h2⟩:=kZ hx
   rw [← h2]
   exact h.ok st a hw h1
  ·cases hx
 ·exact hF g' vs t x hw hx
def UW (P:Program) (tab:aaT) (pl:PlL) (hl:HlL) (sp:SpL) (g:Nat) (w:Ty) (as:List Ty) (rty:Ty):T:=((ZN ⟨P,zO tab,Sm pl,Sl hl,DI sp⟩ 3000 g w as rty).map (·.1)).getD .fail
variable {P:Program}
theorem Yb (L:Lib P) (hm:P.follows .mixedOrders=true) (g:Nat) (w:Ty) (as:List Ty) (rty:Ty) (f:tX (.sl w::as)→Option (Ty.prod (.sl w) rty).den) (pl:PlL) (hl:HlL) (sp:SpL) (hsp:GK P (DI sp))
  (hf:∀ st,(UW P L.tab pl hl sp g w as rty).run L.cf (Ty.prod (.sl w) rty).den (l7 (.sl w::as) st) [fun vs=>qZ [.prod (.sl w) rty] vs]=f st):QU P g w as rty f:=by
 unfold UW at hf
 cases h:ZN ⟨P,zO L.tab,Sm pl,Sl hl,DI sp⟩ 3000 g w as rty with
 | none =>
  rw [h] at hf
  have:∀ st,f st=none:=fun st=>by rw [← hf];rfl
  refine ⟨fun st r _ h=>?_⟩
  rw [this] at h;cases h
 | some q =>
  rw [h] at hf
  exact QU.of (C:=⟨P,zO L.tab,Sm pl,Sl hl,DI sp⟩) (lg:=q.2) hm hsp L.ok h hf
noncomputable def Lib.turn (L:Lib P) (hm:P.follows .mixedOrders=true) (g:Nat) (w:Ty) (as:List Ty) (rty:Ty) (f:tX (.sl w::as)→Option (Ty.prod (.sl w) rty).den) (pl:PlL) (hl:HlL) (sp:SpL) (hsp:GK P (DI sp))
  (hf:∀ st,(UW P L.tab pl hl sp g w as rty).run L.cf (Ty.prod (.sl w) rty).den (l7 (.sl w::as) st) [fun vs=>qZ [.prod (.sl w) rty] vs]=f st):Lib P :=
 ⟨QL (g+1000000) (.sl w::as) (.prod (.sl w) rty) f L.cf,L.tab,(g+1000000,.sl w::as,.prod (.sl w) rty,UW P L.tab pl hl sp g w as rty)::L.tr,Ya (Yb L hm g w as rty f pl hl sp hsp hf) L.ok,Bf L.le hf⟩
end Go.Tx
