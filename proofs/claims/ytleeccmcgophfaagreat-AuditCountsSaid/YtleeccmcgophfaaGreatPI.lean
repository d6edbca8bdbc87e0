import Derived.Test.YtleeccmcgophfaaGreatPH
import Derived.KernelRfl
import Derived.Test.YtleeccmcgophfaaGreatPC
import Derived.ProofKit
import Derived.OpenShut
import Derived.Carry
import Derived.WideKeyArgs
set_option linter.all false
namespace Go.Tx
open Go Go.Ab
section
variable {P:Program} {CS:Calls'} {env:List Val} {y:Sy} {s:Sa} {p:Name} {all:Array Oper}
theorem okBs_ext' {CS:Calls'}:∀ {bs:Bs} {env:List Val} {Q:List Val→Prop},okBs CS bs env Q→okBs CS bs env fun e=>(∃ l,e=env++l)∧Q e
 | [],env,Q,h=>⟨⟨[],by simp⟩,h⟩
 | b::bs,env,Q,h=>by
  obtain ⟨v,h0,h1,h2⟩:=h
  refine ⟨v,h0,h1,okBs_mono ?_ (okBs_ext' h2)⟩
  rintro e ⟨⟨l,rfl⟩,hq⟩
  exact ⟨⟨v::l,by simp⟩,hq⟩
theorem InstK.filterK {κ:Type} {env:List Val} {f:κ→Bool}:∀ {xs:List (κ×SV)} {vs:List (κ×V)},InstK env xs vs→InstK env (xs.filter fun x=>f x.1) (vs.filter fun x=>f x.1)
 | [],vs,h=>by simp only [InstK] at h;subst h;simp [InstK]
 | (k,x)::xs,vs,h=>by
  simp only [InstK] at h
  obtain ⟨v,l,rfl,h1,h2⟩:=h
  simp only [List.filter_cons]
  split
  ·exact ⟨v,_,rfl,h1,h2.filterK⟩
  ·exact h2.filterK
theorem Inst.restr {R:List Name} (h:Inst env y s):Inst env (restrY R y) (restr R s) :=
 ⟨h.g,h.rd,h.n,h.ts,h.sv,h.bx.filterK (f:=fun n=>R.contains n),h.lp,h.ow,h.vc.filter (q:=fun n=>R.contains n)⟩
mutual
theorem InstV.det:∀ {x:SV} {v u:V},detS x=true→InstV env x v→InstV env x u→v=u
 | .e t x,v,u,h,hv,hu=>by
  simp only [InstV] at hv hu
  obtain ⟨a,h1,rfl⟩:=hv;obtain ⟨b,h2,rfl⟩:=hu
  rw [h1] at h2;cases h2;rfl
 | .nil,v,u,h,hv,hu=>by simp only [InstV] at hv hu;rw [hv,hu]
 | .own id sz t x,v,u,h,hv,hu=>by
  simp only [InstV] at hv hu
  obtain ⟨a,h1,_,rfl⟩:=hv;obtain ⟨b,h2,_,rfl⟩:=hu
  rw [h1] at h2;cases h2;rfl
 | .ptr n off,v,u,h,hv,hu=>by simp only [InstV] at hv hu;rw [hv,hu]
 | .aptr n off m t i inn,v,u,h,hv,hu=>by
  simp only [InstV] at hv hu
  obtain ⟨k,j,h1,_,_,rfl⟩:=hv;obtain ⟨k',j',h2,_,_,rfl⟩:=hu
  rw [h1] at h2;cases h2;rfl
 | .ref t x off,v,u,h,hv,hu=>by simp [detS] at h
 | .fn f cap,v,u,h,hv,hu=>by
  simp only [InstV] at hv hu
  obtain ⟨c,rfl,h1⟩:=hv;obtain ⟨d,rfl,h2⟩:=hu
  rw [InstL.det (by simpa [detS] using h) h1 h2]
 | .yld l,v,u,h,hv,hu=>by simp only [InstV] at hv hu;rw [hv,hu]
 | .mref n,v,u,h,hv,hu=>by simp only [InstV] at hv hu;rw [hv,hu]
 | .mpc k t x,v,u,h,hv,hu=>by simp [detS] at h
 | .agg cs,v,u,h,hv,hu=>by
  simp only [InstV] at hv hu
  obtain ⟨c,rfl,h1⟩:=hv;obtain ⟨d,rfl,h2⟩:=hu
  rw [InstL.det (by simpa [detS] using h) h1 h2]
 | .mix t x os zs,v,u,h,hv,hu=>by
  simp only [InstV] at hv hu
  obtain ⟨a,c,h1,rfl,h3,h4,h5⟩:=hv;obtain ⟨a',c',g1,rfl,g3,g4,g5⟩:=hu
  rw [h1] at g1;cases g1
  have e:c=c':=by
   refine List.ext_getElem? fun i=>?_
   by_cases hi:i<t.size
   ·by_cases ho:i∈os
    ·exact InstP.det (by simpa [detS] using h) h4 g4 i ho
    ·rw [h5 i hi ho,g5 i hi ho]
   ·rw [List.getElem?_eq_none (by omega),List.getElem?_eq_none (by omega)]
  rw [e]
 | .tup cs,v,u,h,hv,hu=>by
  simp only [InstV] at hv hu
  obtain ⟨c,rfl,h1⟩:=hv;obtain ⟨d,rfl,h2⟩:=hu
  rw [InstL.det (by simpa [detS] using h) h1 h2]
 | .kd cs,v,u,h,hv,hu=>by simp only [InstV] at hv hu;rw [hv,hu]
 | .gd gs x,v,u,h,hv,hu=>by
  simp only [InstV] at hv hu
  obtain ⟨b,h1,h2,h3,h4⟩:=hv;obtain ⟨b',g1,g2,g3,g4⟩:=hu
  rw [h1] at g1;cases g1
  cases b with
  | true=>exact InstV.det (by simpa [detS] using h) (h3 rfl) (g3 rfl)
  | false=>rw [h4 rfl,g4 rfl]
 | .vsl n,v,u,h,hv,hu=>by simp only [InstV] at hv hu;rw [hv,hu]
 | .vpt n t i inn,v,u,h,hv,hu=>by
  simp only [InstV] at hv hu
  obtain ⟨k,j,h1,_,rfl⟩:=hv;obtain ⟨k',j',h2,_,rfl⟩:=hu
  rw [h1] at h2;cases h2;rfl
 | .dead,v,u,h,hv,hu=>by simp only [InstV] at hv hu;rw [hv,hu]
theorem InstL.det:∀ {xs:List SV} {vs us:List V},detL xs=true→InstL env xs vs→InstL env xs us→vs=us
 | [],vs,us,h,hv,hu=>by simp only [InstL] at hv hu;rw [hv,hu]
 | x::xs,vs,us,h,hv,hu=>by
  simp only [InstL] at hv hu
  simp only [detL,Bool.and_eq_true] at h
  obtain ⟨v,vs',rfl,h1,h2⟩:=hv;obtain ⟨u,us',rfl,g1,g2⟩:=hu
  rw [InstV.det h.1 h1 g1,InstL.det h.2 h2 g2]
theorem InstP.det:∀ {zs:List SV} {os:List Nat} {c d:List V},detL zs=true→InstP env os zs c→InstP env os zs d→∀ i∈os,c[i]? = d[i]?
 | [],os,c,d,h,hc,hd,i,hi=>by simp only [InstP] at hc;subst hc;cases hi
 | z::zs,os,c,d,h,hc,hd,i,hi=>by
  simp only [InstP] at hc hd
  simp only [detL,Bool.and_eq_true] at h
  obtain ⟨j,os',rfl,⟨v,h1,h2⟩,h3⟩:=hc
  obtain ⟨j',os'',e,⟨u,g1,g2⟩,g3⟩:=hd
  cases e
  rcases List.mem_cons.1 hi with e | e
  ·subst e;rw [h1,g1,InstV.det h.1 h2 g2]
  ·exact InstP.det h.2 h3 g3 i e
end
theorem InstK.lookR {xs:List (Name×SV)} {vs:List (Name×V)} (h:InstK env xs vs) {n:Name} {v:V} (hv:lookN n vs=some v):∃ x,lookN n xs=some x∧InstV env x v:=by
 cases hx:lookN n xs with
 | none=>rw [(h.look).2 hx] at hv;cases hv
 | some x =>
  obtain ⟨u,h1,h2⟩:=(h.look).1 hx
  rw [h1] at hv;cases hv
  exact ⟨x,rfl,h2⟩
theorem InstC.lookR {xs:List (Name×Ty×E)} {vs:List (Name×Nat×List D)} (h:InstC env xs vs) {n:Name} {v:Nat×List D} (hv:lookN n vs=some v):∃ t x,lookN n xs=some (t,x)∧∃ a:List t.den,v=(t.size,a.map (encD t))∧x.val env=some ⟨.sl t,a⟩:=by
 cases hx:lookN n xs with
 | none=>rw [(h.look).2 hx] at hv;cases hv
 | some x =>
  obtain ⟨t,x⟩:=x
  obtain ⟨a,h2,h1⟩:=(h.look).1 hx
  rw [h1] at hv;cases hv
  exact ⟨t,x,rfl,a,rfl,h2⟩
theorem lookN_mem {α:Type} {n:Name} {x:α}:∀ {l:List (Name×α)},lookN n l=some x→n∈l.map (·.1)
 | [],h=>by cases h
 | (m,z)::l,h=>by
  simp only [lookN] at h
  split at h
  ·rename_i e;rw [List.map_cons];exact List.mem_cons.2 (.inl e.symm)
  ·rw [List.map_cons];exact List.mem_cons_of_mem _ (lookN_mem h)
theorem isPtr_ok {n:Name} {z:SV} {v:V} (h:isPtr n z=true) (hv:InstV env z v):∃ o,v = .ptr n o:=by
 cases z <;> simp only [isPtr,Bool.false_eq_true,decide_eq_true_eq] at h
 simp only [InstV] at hv
 subst h
 exact ⟨_,hv⟩
theorem keepB_ok {hb ys:Sy} {hbs sj:Sa} {n:Name} (h:keepB hb ys n=true) (h1:InstK env hb.bx hbs.bx) (h2:InstC env hb.vc hbs.vc) (hJ:Inst env ys sj) :
  (∀ c,lookN n hbs.bx=some c→lookN n sj.bx=some c)∧∀ c,lookN n hbs.vc=some c→lookN n sj.vc=some c:=by
 simp only [keepB,Bool.and_eq_true] at h
 constructor
 ·intro c hc
  obtain ⟨z,h1,h2⟩:=h1.lookR hc
  have h3:=h.1
  rw [h1] at h3
  simp only at h3
  split at h3
  ·rename_i u hu
   simp only [Bool.and_eq_true] at h3
   have e:=SV.same_eq _ h3.2
   subst e
   obtain ⟨c',g1,g2⟩:=(hJ.bx.look).1 hu
   rw [g1,InstV.det h3.1 g2 h2]
  ·cases h3
 ·intro c hc
  obtain ⟨t,x,h1,a,h2,h4⟩:=h2.lookR hc
  have h3:=h.2
  rw [h1] at h3
  simp only at h3
  split at h3
  ·rename_i u e hu
   simp only [Bool.and_eq_true,decide_eq_true_eq] at h3
   obtain ⟨h5,h6⟩:=h3
   subst h5
   have e:=E.same_eq h6
   subst e
   obtain ⟨a',g2,g1⟩:=(hJ.vc.look).1 hu
   rw [h4] at g2
   cases g2
   rw [g1,h2]
  ·cases h3
theorem putAllS_lp:∀ (l:List (Nat×SV)) {y:Sy},(putAllS all y l).lp=y.lp
 | [],y=>rfl
 | x::l,y=>by
  show (putAllS all (y.put (dstOf all x.1) x.2) l).lp=_
  rw [putAllS_lp l,put_lpS]
theorem isDead_ok {z:SV} {v:V} (h:isDead z=true) (hv:InstV env z v):v = .dead:=by
 cases z <;> simp only [isDead,Bool.false_eq_true] at h
 exact hv
theorem lkDK_ok {d:Option Tmp} (h:InstK env y.ts s.ts):InstV env (lkDS d y) (lkD d s):=by
 cases d with
 | none=>rfl
 | some t=>exact h.lk
def KeepL (ds:List Tmp) (s sj:Sa) (vs:List V):Prop:=(∀ nm∈V.bxsL vs,KeepN ds s sj nm)∧V.owsL vs=[]∧V.lpsL vs=[]∧∀ nm∈V.vnsL vs,KeepM ds s sj nm
mutual
theorem keepS_ok {f g:Name→Bool} {ds:List Tmp} {s1 sj:Sa} (hf:∀ n,f n=true→KeepN ds s1 sj n) (hg:∀ n,g n=true→KeepM ds s1 sj n):∀ {z:SV} {v:V},keepS f g z=true→InstV env z v→KeepV ds s1 sj v
 | .e t x,v,h,hv=>by simp only [InstV] at hv;obtain ⟨a,_,rfl⟩:=hv;exact ⟨by simp [V.bxs],rfl,rfl,by simp [V.vns]⟩
 | .nil,v,h,hv=>by simp only [InstV] at hv;subst hv;exact ⟨by simp [V.bxs],rfl,rfl,by simp [V.vns]⟩
 | .own id sz t x,v,h,hv=>by simp [keepS] at h
 | .ptr n off,v,h,hv=>by simp only [InstV] at hv;subst hv;exact ⟨by simpa [V.bxs] using hf n h,rfl,rfl,by simp [V.vns]⟩
 | .aptr n off m t i inn,v,h,hv=>by simp only [InstV] at hv;obtain ⟨_,_,_,_,_,rfl⟩:=hv;exact ⟨by simpa [V.bxs] using hf n h,rfl,rfl,by simp [V.vns]⟩
 | .ref t x off,v,h,hv=>by simp only [InstV] at hv;obtain ⟨a,cs,_,rfl,_⟩:=hv;exact ⟨by simp [V.bxs],rfl,rfl,by simp [V.vns]⟩
 | .fn f' cap,v,h,hv=>by
  simp only [InstV] at hv
  obtain ⟨c,rfl,h1⟩:=hv
  obtain ⟨k1,k2,k3,k4⟩:=keepSL_ok hf hg (by simpa [keepS] using h) h1
  exact ⟨by simpa only [V.bxs] using k1,by simpa only [V.ows] using k2,by simpa only [V.lps] using k3,by simpa only [V.vns] using k4⟩
 | .yld l,v,h,hv=>by simp [keepS] at h
 | .mref n,v,h,hv=>by simp only [InstV] at hv;subst hv;exact ⟨by simpa [V.bxs] using hf n h,rfl,rfl,by simp [V.vns]⟩
 | .mpc k t x,v,h,hv=>by simp [keepS] at h
 | .agg cs,v,h,hv=>by
  simp only [InstV] at hv
  obtain ⟨c,rfl,h1⟩:=hv
  obtain ⟨k1,k2,k3,k4⟩:=keepSL_ok hf hg (by simpa [keepS] using h) h1
  exact ⟨by simpa only [V.bxs] using k1,by simpa only [V.ows] using k2,by simpa only [V.lps] using k3,by simpa only [V.vns] using k4⟩
 | .mix t x os zs,v,h,hv=>by simp [keepS] at h
 | .tup cs,v,h,hv=>by
  simp only [InstV] at hv
  obtain ⟨c,rfl,h1⟩:=hv
  obtain ⟨k1,k2,k3,k4⟩:=keepSL_ok hf hg (by simpa [keepS] using h) h1
  exact ⟨by simpa only [V.bxs] using k1,by simpa only [V.ows] using k2,by simpa only [V.lps] using k3,by simpa only [V.vns] using k4⟩
 | .kd cs,v,h,hv=>by simp only [InstV] at hv;subst hv;exact ⟨by simp [V.bxs],rfl,rfl,by simp [V.vns]⟩
 | .gd gs x,v,h,hv=>by
  simp only [InstV] at hv
  obtain ⟨b,_,_,h3,h4⟩:=hv
  cases b with
  | true=>exact keepS_ok hf hg (by simpa [keepS] using h) (h3 rfl)
  | false=>rw [h4 rfl];exact ⟨by simp [V.bxs,V.bxsL],rfl,rfl,by simp [V.vns,V.vnsL]⟩
 | .vsl n,v,h,hv=>by simp only [InstV] at hv;subst hv;exact ⟨by simp [V.bxs],rfl,rfl,by simpa [V.vns] using hg n h⟩
 | .vpt n t i inn,v,h,hv=>by simp only [InstV] at hv;obtain ⟨_,_,_,_,rfl⟩:=hv;exact ⟨by simp [V.bxs],rfl,rfl,by simpa [V.vns] using hg n h⟩
 | .dead,v,h,hv=>by simp only [InstV] at hv;subst hv;exact ⟨by simp [V.bxs],rfl,rfl,by simp [V.vns]⟩
theorem keepSL_ok {f g:Name→Bool} {ds:List Tmp} {s1 sj:Sa} (hf:∀ n,f n=true→KeepN ds s1 sj n) (hg:∀ n,g n=true→KeepM ds s1 sj n):∀ {zs:List SV} {vs:List V},keepSL f g zs=true→InstL env zs vs→KeepL ds s1 sj vs
 | [],vs,h,hv=>by simp only [InstL] at hv;subst hv;exact ⟨by simp [V.bxsL],rfl,rfl,by simp [V.vnsL]⟩
 | z::zs,vs,h,hv=>by
  simp only [InstL] at hv
  obtain ⟨v,vs',rfl,h1,h2⟩:=hv
  simp only [keepSL,Bool.and_eq_true] at h
  have k:=keepS_ok hf hg h.1 h1
  obtain ⟨k1,k2,k3,k4⟩:=keepSL_ok hf hg h.2 h2
  refine ⟨fun nm hn=>?_,by simp [V.owsL,k.o,k2],by simp [V.lpsL,k.l,k3],fun nm hn=>?_⟩
  ·simp only [V.bxsL,List.mem_append] at hn
   exact hn.elim (k.b nm) (k1 nm)
  ·simp only [V.vnsL,List.mem_append] at hn
   exact hn.elim (k.v nm) (k4 nm)
end
theorem isMref_ok {n:Name} {z:SV} {v:V} (h:isMref n z=true) (hv:InstV env z v):v = .mref n:=by
 cases z <;> simp only [isMref,Bool.false_eq_true,decide_eq_true_eq] at h
 simp only [InstV] at hv
 subst h;exact hv
theorem isVsl_ok {n:Name} {z:SV} {v:V} (h:isVsl n z=true) (hv:InstV env z v):v = .vsl n:=by
 cases z <;> simp only [isVsl,Bool.false_eq_true,decide_eq_true_eq] at h
 simp only [InstV] at hv
 subst h;exact hv
theorem kpN_ok {l:List Val} {ds:List Tmp} {y1 yj:Sy} {s1 sj:Sa} {nm:Name} (h:kpN ds y1 yj nm=true) (hI:Inst env y1 s1) (hJ:Inst (env++l) yj sj):KeepN ds s1 sj nm:=by
 obtain ⟨x,hx,h⟩:=List.any_eq_true.1 h
 simp only [Bool.and_eq_true,Bool.or_eq_true,Bool.not_eq_true',List.contains_eq_mem,decide_eq_false_iff_not] at h
 refine ⟨x.1,h.1,?_⟩
 rcases h.2 with ⟨h1,h2⟩ | ⟨h1,h2⟩
 ·obtain ⟨o,e1⟩:=isPtr_ok h1 (hI.ts.lk (t:=x.1))
  obtain ⟨o',e2⟩:=isPtr_ok h2 (hJ.ts.lk (t:=x.1))
  exact .inl ⟨o,o',e1,e2⟩
 ·exact .inr ⟨isMref_ok h1 (hI.ts.lk (t:=x.1)),isMref_ok h2 (hJ.ts.lk (t:=x.1))⟩
theorem kpM_ok {l:List Val} {ds:List Tmp} {y1 yj:Sy} {s1 sj:Sa} {nm:Name} (h:kpM ds y1 yj nm=true) (hI:Inst env y1 s1) (hJ:Inst (env++l) yj sj):KeepM ds s1 sj nm:=by
 obtain ⟨x,hx,h⟩:=List.any_eq_true.1 h
 simp only [Bool.and_eq_true,Bool.not_eq_true',List.contains_eq_mem,decide_eq_false_iff_not] at h
 exact ⟨x.1,h.1,isVsl_ok h.2.1 (hI.ts.lk (t:=x.1)),isVsl_ok h.2.2 (hJ.ts.lk (t:=x.1))⟩
theorem InstK.keysE {κ:Type}:∀ {xs:List (κ×SV)} {vs:List (κ×V)},InstK env xs vs→vs.map (·.1)=xs.map (·.1)
 | [],vs,h=>by simp only [InstK] at h;subst h;rfl
 | (k,x)::xs,vs,h=>by
  simp only [InstK] at h
  obtain ⟨v,l,rfl,_,h2⟩:=h
  simp [h2.keysE]
theorem InstK.memR {κ:Type}:∀ {xs:List (κ×SV)} {vs:List (κ×V)},InstK env xs vs→∀ q∈vs,∃ z∈xs,z.1=q.1∧InstV env z.2 q.2
 | [],vs,h,q,hq=>by simp only [InstK] at h;subst h;cases hq
 | (k,x)::xs,vs,h,q,hq=>by
  simp only [InstK] at h
  obtain ⟨v,l,rfl,h1,h2⟩:=h
  rcases List.mem_cons.1 hq with rfl | hq
  ·exact ⟨_,List.mem_cons_self,rfl,h1⟩
  ·obtain ⟨z,g1,g2⟩:=h2.memR q hq
   exact ⟨z,List.mem_cons_of_mem _ g1,g2⟩
theorem InstK.appendK {κ:Type}:∀ {xs ys:List (κ×SV)} {vs us:List (κ×V)},InstK env xs vs→InstK env ys us→InstK env (xs++ys) (vs++us)
 | [],ys,vs,us,h,h'=>by simp only [InstK] at h;subst h;exact h'
 | (k,x)::xs,ys,vs,us,h,h'=>by
  simp only [InstK] at h
  obtain ⟨v,l,rfl,h1,h2⟩:=h
  exact ⟨v,_,rfl,h1,h2.appendK h'⟩
theorem InstK.mapK {κ ι:Type} {k:ι→κ} {z:ι→SV} {v:ι→V}:∀ {l:List ι},(∀ q∈l,InstV env (z q) (v q))→InstK env (l.map fun q=>(k q,z q)) (l.map fun q=>(k q,v q))
 | [],h=>rfl
 | q::l,h=>⟨_,_,rfl,h q List.mem_cons_self,InstK.mapK fun x hx=>h x (List.mem_cons_of_mem _ hx)⟩
theorem putAllK_ok:∀ {Z:List (Nat×SV)} {W:List (Nat×V)} {y:Sy} {s:Sa},Inst env y s→InstK env Z W→Inst env (putAllS all y Z) (putAll all s W)
 | [],W,y,s,h,hv=>by simp only [InstK] at hv;subst hv;exact h
 | (q,z)::Z,W,y,s,h,hv=>by
  simp only [InstK] at hv
  obtain ⟨v,l,rfl,h1,h2⟩:=hv
  exact putAllK_ok (Z:=Z) (y:=y.put (dstOf all q) z) (s:=s.put (dstOf all q) v) (h.put (dstOf all q) h1) h2
theorem zrB_ok {x:Nat} (h:zrB P all x=true):InstV env (zOfS P all x) (zOf P all x)∧isCells (zOf P all x)=true∧(zOf P all x).notNil=true∧∀ ty o,all[x]? = some o→o.op = .alloc ty→(tzero P ty).cells.length=tsz P ty:=by
 unfold zrB at h
 split at h
 ·rename_i o ho
  split at h
  ·rename_i ty hop
   split at h
   ·rename_i z hz
    simp only [Bool.and_eq_true,decide_eq_true_eq] at h
    have hv:=zeroSV_ok (env:=env) hz
    obtain ⟨q1,q2⟩:=sizeS_ok h.2 hv
    have e1:zOfS P all x=z:=by simp only [zOfS,ho,hop,hz,Option.getD_some]
    have e2:zOf P all x=tzero P ty:=by simp only [zOf,ho,hop]
    rw [e1,e2]
    refine ⟨hv,q2,notNilS_ok h.1 hv,fun ty' o' ho' hop'=>?_⟩
    rw [ho] at ho'; cases ho'
    rw [hop] at hop'; cases hop'
    exact q1
   ·cases h
  ·cases h
 ·cases h
theorem adoptS_ok {l:List Nat} (hI:Inst env y s) (hz:∀ x∈l,zrB P all x=true):Inst env (adoptS P all p l y) (adoptAll P all p l s):=by
 refine putAllK_ok ?_ (InstK.mapK fun x _=>by simp only [InstV])
 exact ⟨hI.g,hI.rd,hI.n,hI.ts,hI.sv,(InstK.mapK fun x hx=>(zrB_ok (hz x hx)).1).appendK hI.bx,hI.lp,hI.ow,hI.vc⟩
theorem adoptS_lp {l:List Nat}:(adoptS P all p l y).lp=y.lp:=putAllS_lp _
theorem stS_ok {fl0 js fl al:List Nat} {V0:List (Nat×SV)} {W0:List (Nat×V)} (h:stS P p all fl0 js fl al V0 y=true) (hI:Inst env y s) (hV:InstK env V0 W0):StC P p all fl0 js fl al W0 s∧∀ x∈al,zrB P all x=true:=by
 simp only [stS,Bool.and_eq_true,List.all_eq_true] at h
 obtain ⟨h1,h2,h3⟩:=h
 refine ⟨⟨by rw [hV.keysE];exact h1,fun x hx=>?_,fun x hx=>?_,fun x hx d hd=>?_,fun q hq d hd=>?_⟩,fun x hx=>(h2 x hx).2.2.2.1⟩
 ·obtain ⟨g1,g2,g3,_⟩:=h2 x hx
  refine ⟨hI.refs (by simpa using g1),(hI.bx.look).2 (isNone_eq g2),fun q hq=>?_⟩
  obtain ⟨z,hz,_,hv⟩:=hV.memR q hq
  exact hv.refs _ (by simpa using g3 z hz)
 ·exact (zrB_ok (env:=env) (h2 x hx).2.2.2.1).2
 ·have:=(h2 x hx).2.2.2.2
  rw [hd] at this
  rw [hI.n];simpa using this
 ·have:=h3 q (List.mem_append.2 hq)
  rw [hd] at this
  exact isDead_ok this hI.ts.lk
theorem keepCS_ok {l:List Val} {V1 V0:List (Nat×SV)} {W1 W0:List (Nat×V)} {hbs:List (Nat×Sy)} {hs:List (Nat×Sa)} {d:Option Tmp} {y1 yj:Sy} {s1 sj:Sa} (h:keepCS all V1 V0 hbs d y y1 yj=true) (hI:Inst env y s) (hI1:Inst env y1 s1) (hJ:Inst (env++l) yj sj)
  (hV1:InstK env V1 W1) (hV0:InstK env V0 W0) (hH:InstH env hbs hs):keepC all W1 W0 hs d s s1 sj:=by
 simp only [keepCS,Bool.and_eq_true,List.all_eq_true] at h
 obtain ⟨h1,h2,h3,h4⟩:=h
 have hfm:W1.filterMap (fun q=>dstOf all q.1)=V1.filterMap (fun q=>dstOf all q.1):=by
  have:=congrArg (List.filterMap (dstOf all)) hV1.keysE
  rw [List.filterMap_map,List.filterMap_map] at this
  exact this
 refine ⟨fun hb hh=>?_,by rw [hJ.n,hI.n];exact Nat.eq_of_beq_eq_true h2,fun q hq u hu=>?_,fun q hq=>?_⟩
 ·obtain ⟨hb',g1,g2,g3⟩:=hH.mem hb hh
  refine ⟨fun nm c hc=>?_,fun nm c hc=>?_⟩
  ·obtain ⟨z,k1,_⟩:=g2.lookR hc
   exact (keepB_ok (h1 hb' g1 nm (List.mem_append_left _ (lookN_mem k1))) (g2.app l) (g3.app l) hJ).1 c hc
  ·obtain ⟨t,x,k1,_⟩:=g3.lookR hc
   exact (keepB_ok (h1 hb' g1 nm (List.mem_append_right _ (lookN_mem k1))) (g2.app l) (g3.app l) hJ).2 c hc
 ·obtain ⟨z,hz,e,hv⟩:=hV1.memR q hq
  have:=h3 z hz u (by rw [e];exact hu)
  simp only [Bool.or_eq_true,List.any_eq_true,decide_eq_true_eq] at this
  rcases this with ⟨r,hr,hd⟩ | this
  ·obtain ⟨r',hr',e'⟩:=List.mem_map.1 (by rw [hV1.keysE];exact List.mem_map_of_mem hr:r.1∈W1.map (·.1))
   exact .inl ⟨r',hr',by rw [e'];exact hd⟩
  refine .inr ?_
  simp only [Bool.and_eq_true] at this
  have e2:=SV.same_eq _ this.2
  have k1:=(putAllK_ok (all:=all) hI hV0).ts.lk (t:=u)
  have k2:=(putAllK_ok (all:=all) hJ (hV1.app l)).ts.lk (t:=u)
  rw [← e2] at k2
  exact InstV.det this.1 k2 (k1.app l)
 ·obtain ⟨z,hz,e,hv⟩:=hV1.memR q hq
  have:=h4 z hz
  rw [hfm]
  exact keepS_ok (fun n hn=>kpN_ok hn hI1 hJ) (fun n hn=>kpM_ok hn hI1 hJ) this hv
theorem lk_filterT (f:Nat→Bool) (t:Nat) (ts:List (Nat×V)):lkT t (ts.filter fun x=>f x.1)=lkT t ts∨lkT t (ts.filter fun x=>f x.1) = .dead:=by
 have h:lkT t (ts.filter fun x=>f x.1)=if f t then lkT t ts else .dead:=by
  induction ts with
  | nil=>simp [lkT]
  | cons x ts ih =>
   obtain ⟨a,b⟩:=x
   simp only [List.filter_cons]
   split
   ·rename_i hf
    simp only [lkT,ih]
    split
    ·rename_i e;subst e;rw [if_pos hf]
    ·rfl
   ·rename_i hf
    rw [ih]
    split
    ·rename_i hft
     simp only [lkT]
     rw [if_neg fun e=>hf (by rw [e];exact hft)]
    ·rfl
 rw [h]
 split
 ·exact .inl rfl
 ·exact .inr rfl
theorem killS_ok {l:List Nat} (h:Inst env y s):∃ s',Wk s s' ∧ Inst env (killS all l y) s' :=
 ⟨{ s with ts:=s.ts.filter fun x=>!l.any fun q=>decide (dstOf all q=some x.1) },Wk.of rfl rfl rfl (fun t=>lk_filterT (fun t=>!l.any fun q=>decide (dstOf all q=some t)) t s.ts) rfl (fun _ _ h=>h) (fun _ h=>h) (fun _ _ h=>⟨h,id⟩),⟨h.g,h.rd,h.n,h.ts.filterK (f:=fun t=>!l.any fun q=>decide (dstOf all q=some t)),h.sv,h.bx,h.lp,h.ow,h.vc⟩⟩
theorem Snd.draw {f:FuncId} {lc:LC} {lv:Lv} {id:Nat} {ops:Array Oper} {r:Res} {fl0 al0 js0 kl:List Nat} (hm:P.follows .mixedOrders=true) (hp:coreB ops fl0 al0 js0=true) {ids:List Name} (H:Snd P p (.core f ops fl0 js0 fl0 al0 [] []) (killS ops kl (stripAll ids y)) r) :
  Snd P p (.code f (.region id ops true) lc lv) y (keepR lv (mapL endOp r)) :=
 ⟨keepR_lp (mapL_lp endOp_lp fun lf hl=>by rw [H.lp lf hl];show lpS (stripAll ids y).lp=_;rw [stripAll_lp]),fun env s hI hw R hs=>by
  obtain ⟨s1,w1,i1⟩:=stripAll_ok (ids:=ids) hI
  obtain ⟨s2,w2,i2⟩:=killS_ok (all:=ops) (l:=kl) i1
  exact TC.weaken w1 (TC.weaken w2 (TC_post (TC_core hm hp (H.go env s2 i2 hw [] [] _ _ rfl rfl (endOp_ok (R:=WkQ R) (keepR_ok hs))))))⟩
theorem Snd.soft {f:FuncId} {l:List Oper} {c:Nat} {lg:Log}:Snd P p (.ops f all l) y ⟨.fail,[],c,lg⟩ :=
 ⟨fun lf hl=>absurd hl List.not_mem_nil,fun env s hI hw k kt hs=>(show False from hs).elim⟩
theorem regAt {env' : List Val} {y2:Sy} {ext:List Val} {s2:Sa} (hI:Inst env y s) (h2:Inst (env++ext) y2 s2):Inst (env++ext) { y with g:=y2.g } s :=
 ⟨h2.g,hI.rd,hI.n,hI.ts.app ext,hI.sv.app ext,hI.bx.app ext,hI.lp,hI.ow,hI.vc.app ext⟩
theorem segRS_ok {C:Cx} {k:List (Nat×Sa)→Sa→Prop}:∀ {l:List Nat} {y:Sy} {bs:Bs} {hs:List (Nat×Sy)} {y1:Sy} {s:Sa} {env:List Val} {hn:List (Nat×Sa)},segRS C p all l y=some (bs,hs,y1)→Inst env y s→EnvWf env →
  okBs (CallV C.P) bs env (fun e=>∀ hn2 s',InstH e hs hn2→Inst e y1 s' → k (hn++hn2) s')→evSegR C.P p all l hn s k
 | [],y,bs,hs,y1,s,env,hn,h,hI,hw,hb=>by
  cases h
  have:=hb [] s rfl hI
  simpa [evSegR] using this
 | i::l,y,bs,hs,y1,s,env,hn,h,hI,hw,hb=>by
  simp only [segRS] at h
  split at h
  ·rename_i o ho
   split at h
   ·rename_i hno
    split at h
    ·rename_i bs1 y2 h1
     split at h
     ·rename_i bs2 hs2 y3 h2
      cases h
      rw [okBs_app] at hb
      simp only [evSegR,ho]
      refine ⟨namesOf o y,nilOKS_ok (y:=restrY (namesOf o y) y) hno hI.restr,oneOp_ok pureS_semsP thrOp_nil hI.restr hw h1 ?_⟩
      refine okBs_mono ?_ (okBs_ext' (okBs_wf' callV_wf hw hb))
      rintro e ⟨⟨ext,rfl⟩,hwe,hq⟩ s' hs'
      refine segRS_ok (hn:=hn++[(i,restr (namesOf o y) s)]) h2 (s:={ s' with bx:=s.bx,vc:=s.vc }) ⟨hs'.g,hs'.rd,hs'.n,hs'.ts,hs'.sv,hI.bx.app ext,hs'.lp,hs'.ow,hI.vc.app ext⟩ hwe (okBs_mono ?_ (okBs_ext' hq))
      rintro e2 ⟨⟨ext2,rfl⟩,hk⟩ hn2 s2 hH hs2
      have:=hk ((i,restr (namesOf o y) s)::hn2) s2 ⟨_,_,rfl,rfl,(hI.restr.bx.app ext).app ext2,(hI.restr.vc.app ext).app ext2,hH⟩ hs2
      simpa using this
     ·cases h
    ·cases h
   ·cases h
  ·cases h
theorem Snd.core0 {C:Cx} {f:FuncId} {fl0 fl al:List Nat} {V0:List (Nat×SV)} {hbs:List (Nat×Sy)} {hn:List (Nat×Sy)} {bs:Bs} {y2:Sy} {c:Nat} (h2:segRS C p all (newV all fl0 [] fl al (V0.map (·.1))) (putAllS all y V0)=some (bs,hn,y2))
  (hs:stS C.P p all fl0 [] fl al (V0++(newV all fl0 [] fl al (V0.map (·.1))).map fun q=>(q,lkDS (dstOf all q) y2)) { y with g:=y2.g }=true) :
  Snd C.P p (.core f all fl0 [] fl al V0 hbs) y ⟨binds bs (.hole 0),[⟨.norm,.dead,adoptS C.P all p al (putAllS all { y with g:=y2.g } (V0++(newV all fl0 [] fl al (V0.map (·.1))).map fun q=>(q,lkDS (dstOf all q) y2)))⟩],c,[]⟩:=by
 constructor
 ·intro lf hl
  simp only [List.mem_singleton] at hl
  subst hl
  show lpS (adoptS _ _ _ _ _).lp=_
  rw [adoptS_lp,putAllS_lp]
 ·intro env s hI hw W0 hs' k kt hV hH hsat
  show evCore C.P kt p all fl0 [] fl al W0 hs' s k
  simp only [evCore,hV.keysE]
  refine segRS_ok h2 (putAllK_ok hI hV) hw ?_
  refine okBs_mono ?_ (okBs_ext' (binds_go (r:=⟨.hole 0,[⟨.norm,.dead,adoptS C.P all p al (putAllS all { y with g:=y2.g } (V0++(newV all fl0 [] fl al (V0.map (·.1))).map fun q=>(q,lkDS (dstOf all q) y2)))⟩],c,[]⟩) hw hsat))
  rintro e ⟨⟨ext,rfl⟩,hwe,hq⟩ hn2 s2 hHn hs2
  have hI':=regAt (env':=env) hI hs2
  have hV' : InstK (env++ext) (V0++(newV all fl0 [] fl al (V0.map (·.1))).map fun q=>(q,lkDS (dstOf all q) y2)) (stepV all W0 (newV all fl0 [] fl al (V0.map (·.1))) s2):=(hV.app ext).appendK (InstK.mapK fun q _=>lkDK_ok hs2.ts)
  obtain ⟨k1,k2⟩:=stS_ok hs hI' hV'
  refine ⟨k1,?_⟩
  obtain ⟨lf,g1,g2⟩:=hq
  simp only [List.getElem?_cons_zero,Option.some.injEq] at g1
  subst g1
  exact g2 _ (adoptS_ok (putAllK_ok hI' hV') k2)
theorem Snd.core1 {C:Cx} {f:FuncId} {fl0 js fl al:List Nat} {j:Nat} {V0:List (Nat×SV)} {hbs:List (Nat×Sy)} {hn:List (Nat×Sy)} {bs:Bs} {y2:Sy} {oj:Oper} {r1 r:Res} {F:Leaf→Nat→Option Res} (h2:segRS C p all (newV all fl0 (j::js) fl al (V0.map (·.1))) (putAllS all y V0)=some (bs,hn,y2))
  (hs:stS C.P p all fl0 (j::js) fl al (V0++(newV all fl0 (j::js) fl al (V0.map (·.1))).map fun q=>(q,lkDS (dstOf all q) y2)) { y with g:=y2.g }=true) (hj:all[j]? = some oj)
  (H1:Snd C.P p (.ops f all [oj]) (adoptS C.P all p (al.filter (need all fl0.reverse (aft oj)).contains) (putAllS all { y with g:=y2.g } ((V0++(newV all fl0 (j::js) fl al (V0.map (·.1))).map fun q=>(q,lkDS (dstOf all q) y2)).filter fun q=>(need all fl0.reverse (aft oj)).contains q.1))) r1)
  (h3:thenL r1 (passT F)=some r)
  (hF:∀ lf c r',F lf c=some r' → (∀ l∈r'.L,lpS l.s.lp=lpS lf.s.lp)∧((keepCS all ((V0++(newV all fl0 (j::js) fl al (V0.map (·.1))).map fun q=>(q,lkDS (dstOf all q) y2)).filter fun q=>!(need all fl0.reverse (aft oj)).contains q.1) (V0++(newV all fl0 (j::js) fl al (V0.map (·.1))).map fun q=>(q,lkDS (dstOf all q) y2)) ((hn++hbs).filter fun q=>!(need all fl0.reverse (aft oj)).contains q.1) oj.dst { y with g:=y2.g }
    (adoptS C.P all p (al.filter (need all fl0.reverse (aft oj)).contains) (putAllS all { y with g:=y2.g } ((V0++(newV all fl0 (j::js) fl al (V0.map (·.1))).map fun q=>(q,lkDS (dstOf all q) y2)).filter fun q=>(need all fl0.reverse (aft oj)).contains q.1))) lf.s=true ∧
    Snd C.P p (.core f all fl0 js (fl.filter fun q=>!(need all fl0.reverse (aft oj)).contains q) (al.filter fun x=>!(need all fl0.reverse (aft oj)).contains x) ((V0++(newV all fl0 (j::js) fl al (V0.map (·.1))).map fun q=>(q,lkDS (dstOf all q) y2)).filter fun q=>!(need all fl0.reverse (aft oj)).contains q.1) ((hn++hbs).filter fun q=>!(need all fl0.reverse (aft oj)).contains q.1)) lf.s r')∨r'.t = .fail)) :
  Snd C.P p (.core f all fl0 (j::js) fl al V0 hbs) y { r with t:=binds bs r.t }:=by
 constructor
 ·refine pass_lp (r':=r) h3 (base:=y.lp) (fun lf hl=>by rw [H1.lp _ hl,adoptS_lp,putAllS_lp]) fun lf c1 r' g1 g2 l g3=>by rw [(hF lf c1 r' g2).1 _ g3,H1.lp _ g1,adoptS_lp,putAllS_lp]
 ·intro env s hI hw W0 hs' k kt hV hH hsat
  show evCore C.P kt p all fl0 (j::js) fl al W0 hs' s k
  simp only [evCore,hV.keysE]
  refine segRS_ok h2 (putAllK_ok hI hV) hw ?_
  refine okBs_mono ?_ (okBs_ext' (binds_go (r:=r) hw hsat))
  rintro e ⟨⟨ext,rfl⟩,hwe,hq⟩ hn2 s2 hHn hs2
  have hI':=regAt (env':=env) hI hs2
  have hV' : InstK (env++ext) (V0++(newV all fl0 (j::js) fl al (V0.map (·.1))).map fun q=>(q,lkDS (dstOf all q) y2)) (stepV all W0 (newV all fl0 (j::js) fl al (V0.map (·.1))) s2):=(hV.app ext).appendK (InstK.mapK fun q _=>lkDK_ok hs2.ts)
  obtain ⟨k1,k2⟩:=stS_ok hs hI' hV'
  refine ⟨k1,?_⟩
  simp only [hj]
  have hN1:=hV'.filterK (f:=fun q=>(need all fl0.reverse (aft oj)).contains q)
  have hN2:=hV'.filterK (f:=fun q=>!(need all fl0.reverse (aft oj)).contains q)
  have hI1:=adoptS_ok (P:=C.P) (all:=all) (p:=p) (l:=al.filter (need all fl0.reverse (aft oj)).contains) (putAllK_ok (all:=all) hI' hN1) fun x hx=>k2 x (List.mem_filter.1 hx).1
  have ea:aftOf all j=aft oj:=by simp only [aftOf,hj]
  have hH':=(hHn.append (hH.app ext)).filter (q:=fun q=>!(need all fl0.reverse (aft oj)).contains q)
  refine H1.go _ _ hI1 hwe _ kt ?_
  refine T.sat_mono (fun _ _ h=>h.2) ?_ (T.sat_ext callV_wf hwe (pass_sat h3 hwe hq))
  rintro i e2 ⟨⟨ext2,rfl⟩,hwe2,lf,q1,⟨_,⟨t,he,hq⟩ | ⟨hn,c1,r',g1,g2⟩⟩⟩
  ·exact ⟨lf,q1,opsQ_thr he hq⟩
  ·refine ⟨lf,q1,opsQ_of hn fun sj hsj=>?_⟩
   rcases (hF lf c1 r' g1).2 with ⟨m1,m2⟩ | m1
   ·simp only [ea,List.nil_append]
    refine ⟨keepCS_ok m1 hI' hI1 hsj hN2 hV' hH',?_⟩
    exact m2.go _ sj hsj hwe2 _ _ k kt (hN2.app ext2) (hH'.app ext2) g2
   ·rw [m1] at g2;exact g2.elim
end
end Go.Tx
namespace Go.Tx
open Go Go.Ab
section
variable {P:Program} {CS:Calls'} {env:List Val} {y:Sy} {s:Sa} {p:Name}
theorem endL_lp {r r' : Res} (h:endL r=some r') {base:List (Name×Lp)} (hlp:∀ lf∈r.L,lpS lf.s.lp=lpS base):∀ lf∈r'.L,lpS lf.s.lp=lpS base:=by
 unfold endL at h
 split at h
 ·cases h
 ·cases h;exact mapL_lp (fun _=>rfl) hlp
theorem endL_sat {r r' : Res} (h:endL r=some r') {R:Ex→Sa→Prop} (hs:r'.t.sat CS noJ (LQ r'.L (leafQ R)) env) :
  r.t.sat CS noJ (LQ r.L (leafQ fun e s'=>match e with | .exit _=>False | e=>R (endE e) s')) env:=by
 unfold endL at h
 split at h
 ·cases h
 ·rename_i hn
  cases h
  refine lq_mono ?_ (mapL_sat hs)
  intro lf hlf e hq s' hs'
  have:=hq s' hs'
  cases he:lf.e with
  | exit i=>exact hn (List.any_eq_true.2 ⟨lf,hlf,by rw [he];rfl⟩)
  | norm=>rw [he] at this;exact this
  | ret=>rw [he] at this;exact this
  | thr t=>rw [he] at this;exact this
theorem Snd.quick {C:Cx} (hsp:SpOK C.P C.sp) {g:FuncId} {args:List SV} {y1:Sy} {z1:SV} {bs:Bs} {c:Nat} (h:quick C p g args y=some (bs,y1,z1)):Snd C.P p (.call g args) y ⟨binds bs (.hole 0),[⟨.norm,z1,y1⟩],c,[]⟩:=by
 have hlp:y1.lp=y.lp:=by
  unfold Tx.quick at h
  split at h
  ·rename_i sp hs
   cases sp <;> simp only [spCall] at h <;> repeat' (split at h)
   all_goals first | (cases h;done) | (cases h;rfl)
  ·split at h
   ·cases h;rfl
   ·cases h
 refine ⟨fun lf hl=>by rw [List.mem_singleton.1 hl];show lpS y1.lp=_;rw [hlp],fun env s hI hw vs k kt hargs hs=>?_⟩
 refine TCall.toT (show TCall C.P p g vs s k from ?_)
 have hb:=binds_go (r:=⟨.hole 0,[⟨.norm,z1,y1⟩],c,[]⟩) hw hs
 unfold Tx.quick at h
 split at h
 ·rename_i sp hsg
  refine spCall_ok (hsp g sp hsg) h hI hargs (okBs_mono ?_ hb)
  rintro e ⟨hwe,hq⟩ s' v hs' hv
  obtain ⟨lf,e1,hq⟩:=hq
  simp only [List.getElem?_cons_zero,Option.some.injEq] at e1
  subst e1
  exact hq s' v hs' hv
 ·split at h
  ·rename_i bs' z hc
   cases h
   unfold callS at hc
   split at hc
   ·rename_i ts r hr
    split at hc
    ·rename_i es hes
     split at hc
     ·rename_i hro
      cases hc
      obtain ⟨us,e1,e2,e3⟩:=argsE_ok hes hargs
      obtain ⟨a,r1,r2,r3⟩:=ok_last hI.len hb
      obtain ⟨vs',x1,x2⟩:=r1
      rw [e1] at x1;cases x1
      have x2:=x2.1
      rw [if_pos hro.2] at x2
      obtain ⟨hwe,lf,e4,hq⟩:=r2
      simp only [List.getElem?_cons_zero,Option.some.injEq] at e4
      subst e4
      exact TCall_pure x2 e3 (hq s _ (hI.snoc _) (resS_ok hro.1 r3))
     ·cases hc
    ·cases hc
   ·cases hc
  ·cases h
theorem Snd.csoft {C:Cx} {g:FuncId} {args:List SV} {i:Name} {u:Ty} {q:E} {r:Res} (h:softAt C g args y=some (i,u,q)) (H:Snd P p (.call g (SV.softL i u q args)) (y.soft i) r):Snd P p (.call g args) y r:=by
 refine ⟨fun lf hl=>by rw [H.lp lf hl,Sy.soft_lp],fun env s hI hw vs k kt hargs hs=>?_⟩
 show TCallT P kt p g vs s k
 unfold softAt at h
 split at h
 ·split at h
  ·rename_i u' q' hl
   cases h
   obtain ⟨a,e1,e2⟩:=(hI.vc.look).1 hl
   refine TCallT.soft e2 ?_
   exact H.go env _ (hI.soft _) hw _ _ _ (InstL.soft e1 _ hargs) hs
  ·cases h
 ·cases h
theorem Snd.call {g:FuncId} {fn:Func} {cb:Code} {args:List SV} {lc:LC} {lv:Lv} {c0:Nat} {r0 r1 r2 r:Res} {F:Leaf→Nat→Option Res} (hf:P.funcs[g]? = some fn) (hb:fn.body=some cb) (hle:args.length≤fn.ntmps)
  (H:Snd P [c0] (.code g cb lc lv) (y.push fn.ntmps args) r0) (h1:endL r0=some r1) (h2:mergeAll y.g false r1=some r2) (h:thenL r2 F=some r)
  (hF:∀ lf c r3,F lf c=some r3→(lf.s.sv.length=y.sv.length+1∧lpD' lf.s.lp=lpD' y.lp)∧((∃ t,lf.e = .thr t∧r3=one (.thr t) (lkS (lf.s.n - 1) lf.s.ts) lf.s.pop c)∨((∀ t,lf.e ≠ .thr t)∧∃ vs,resV P lf.s fn.results.toList=some vs∧r3=one .norm (mkResS vs) lf.s.pop c))):Snd P p (.call g args) y r:=by
 have hl1:=endL_lp h1 H.lp
 have hl2:=mergeAll_lp h2 hl1
 constructor
 ·intro lf' hl
  obtain ⟨lf,k1,c1,r3,k2,k3⟩:=then_mem h lf' hl
  rcases (hF lf c1 r3 k2).2 with ⟨t,_,rfl⟩ | ⟨_,vs,k4,rfl⟩ <;> rw [one_mem k3,pop_lpS] <;> exact hl2 lf k1
 ·intro env s hI hw vs k kt hargs hs
  show TCallT P kt p g vs s k
  refine TCall_enterT [c0] hf hb (by rw [hargs.len];exact hle) (TC_post ?_)
  refine H.go env _ (hI.push fn.ntmps hargs) hw _ ?_
  have k1:=(mergeAll_ok callV_wf h2 hI.g hw hl1).2 (R:=fun e s'=>s'.sv.length=s.sv.length+1∧lpD s'.lp=lpD s.lp∧match e with
   | .thr t=>kt t (lkT (s'.n - 1) s'.ts) s'.pop
   | _=>resK P s' fn.results.toList fun us=>k (mkRes us) s'.pop) (lq_mono (fun lf hlf e=>?_) (then_sat h hw hs))
  ·refine lq_mono ?_ (endL_sat h1 k1)
   rintro lf hlf e hq s' hs'
   have:=hq s' hs'
   cases he:lf.e with
   | exit i=>rw [he] at this;exact this.elim
   | norm=>rw [he] at this;obtain ⟨s2,w2,e2⟩:=this;exact ⟨s2,w2,e2⟩
   | ret=>rw [he] at this;obtain ⟨s2,w2,e2⟩:=this;exact ⟨s2,w2,e2⟩
   | thr t=>rw [he] at this;obtain ⟨s2,w2,e2⟩:=this;exact ⟨s2,w2,e2⟩
  ·rintro ⟨hwe,c1,r3,e1,e2⟩ s' hs'
   obtain ⟨⟨e3,e4⟩,e5⟩:=hF lf c1 r3 e1
   refine ⟨by rw [hs'.sv.len,hI.sv.len];exact e3,by rw [hs'.lp,hI.lp];exact e4,?_⟩
   rcases e5 with ⟨t,he,rfl⟩ | ⟨hn,us,e5,rfl⟩
   ·rw [he]
    have e6:=one_sat e2
    have:=e6 _ _ hs'.pop (hs'.ts.lk (t:=lf.s.n - 1))
    rw [← hs'.n] at this
    exact this
   ·have e6:=one_sat e2
    have e7:resK P s' fn.results.toList fun us=>k (mkRes us) s'.pop:=resV_ok e5 hs' fun ws hws=>e6 _ _ hs'.pop (mkResS_ok hws)
    cases he:lf.e with
    | thr t=>exact absurd he (hn t)
    | _=>exact e7
theorem Snd.yld {l:Name} {q:Lp} {f:SFr} {fo:FuncId} {args:List SV} {lc lc' : LC} {lv lv' : Lv} {c0:Nat} {r1 r:Res} {F:Leaf→Nat→Option Res} (hnh:isH l=false) (hl:lookN l y.lp=some q) (hf:(framesS y).reverse[q.depth]? = some f) (hps:q.ps.toList.all (fun t=>decide (t<f.n))=true) (hlen:args.length=q.ps.size)
  (H:Snd P [c0] (.code fo q.assign lc lv) (y.round l f q.ps.toList args) r1) (h:thenL r1 F=some r)
  (hF:∀ lf c r3,F lf c=some r3→lf.e = .norm∧∃ q1,lookN l lf.s.lp=some q1∧q1.pending=none∧∃ pq r2 r2' G,Snd P pq (.code fo q.body lc' lv') (lf.s.setLp l { q1 with pending:=some none }) r2∧mergeAll lf.s.g false r2=some r2' ∧ thenL r2' G=some r3 ∧
   ∀ lf c r3,G lf c=some r3→(lf.s.sv.length=y.sv.length+1∧lpD' lf.s.lp=lpD' y.lp∧isThr lf.e=false)∧∃ q2,lookN l lf.s.lp=some q2∧r3=one .norm (.e .bool (.bool (goesOn' lf.e))) (lf.s.setLp l { q2 with pending:=jmp lf.e }).pop c):Snd P p (.yld l args) y r:=by
 have hlp2:∀ lf∈r1.L,∀ c r3,F lf c=some r3→∀ q1,lookN l lf.s.lp=some q1→lpS (lf.s.setLp l { q1 with pending:=some none }).lp=lpS y.lp:=fun lf hm c r3 _ q1 hq1=>by
  rw [show (lf.s.setLp l { q1 with pending:=some none }).lp=Ab.setN l { q1 with pending:=some none } lf.s.lp from rfl,lpS_setN (q:=q1) (q':={ q1 with pending:=some none }) ⟨rfl,rfl,rfl,rfl⟩ hq1]
  exact H.lp lf hm
 constructor
 ·intro lf' hl'
  obtain ⟨lf,k1,c1,r3,k2,k3⟩:=then_mem h lf' hl'
  obtain ⟨e1,q1,e2,e3,pq,r2,r2',G,H2,e4,e5,e6⟩:=hF lf c1 r3 k2
  obtain ⟨lf2,m1,c2,r4,m2,m3⟩:=then_mem e5 lf' k3
  obtain ⟨_,q2,m4,rfl⟩:=e6 lf2 c2 r4 m2
  rw [one_mem m3,pop_lpS,show (lf2.s.setLp l { q2 with pending:=jmp lf2.e }).lp=Ab.setN l { q2 with pending:=jmp lf2.e } lf2.s.lp from rfl,lpS_setN (q:=q2) (q':={ q2 with pending:=jmp lf2.e }) ⟨rfl,rfl,rfl,rfl⟩ m4]
  rw [mergeAll_lp e4 H2.lp lf2 m1]
  exact hlp2 lf k1 c1 r3 k2 q1 e2
 ·intro env s hI hw vs k kt hargs hs
  show TYld P p l vs s k
  obtain ⟨g,g1,g2,g3⟩:=hI.frame hf
  refine TYld_enterT [c0] hnh (by rw [hI.lp];exact hl) g1 (fun t ht=>by rw [g2];simpa using (List.all_eq_true.1 hps) t ht) (by rw [hargs.len];exact hlen) ?_
  refine H.go env _ (hI.round l g2 g3 q.ps.toList hargs) hw _ (lq_mono ?_ (then_sat h hw hs))
  rintro lf hlf e ⟨hwe,c1,r3,e1,e2⟩ s1 hs1
  obtain ⟨a1,q1,a2,a3,pq,r2,r2',G,H2,a4,a5,a6⟩:=hF lf c1 r3 e1
  have hlS:=H.lp lf hlf
  obtain ⟨q0,b1,b2,b3,b4,b5⟩:=lpS_look hlS a2
  have:(y.round l f q.ps.toList args).lp=y.lp:=rfl
  rw [this,hl] at b1
  cases b1
  rw [a1]
  simp only [BeginT]
  rw [hs1.lp,a2]
  refine ⟨a3,b5.symm,?_⟩
  refine TC_post (show TC P pq q.body _ _ from H2.go e _ (hs1.setLp l _) hwe _ ?_)
  refine (mergeAll_ok callV_wf a4 hs1.g hwe H2.lp).2 (R:=EndK l s k) (lq_mono ?_ (then_sat a5 hwe e2))
  rintro lf2 hlf2 e3 ⟨hwe3,c3,r4,c4,c5⟩ s2 hs2
  obtain ⟨⟨d1,d2,d0⟩,q2,d3,rfl⟩:=a6 lf2 c3 r4 c4
  have d4:=one_sat c5
  refine ⟨by cases he:lf2.e <;> first | trivial | (rw [he] at d0;cases d0),by rw [hs2.sv.len,hI.sv.len];exact d1,by rw [hs2.lp,hI.lp];exact d2,?_⟩
  rw [hs2.lp,d3]
  exact d4 _ _ (hs2.setLp l _).pop (by simp only [InstV];exact ⟨_,rfl,by rw [encD_bool];cases lf2.e <;> rfl⟩)
theorem Snd.range {f:FuncId} {g:Operand} {ps:Array Tmp} {a b cb:Code} {lc lcb:LC} {lv lvb:Lv} {l:Name} {gf:FuncId} {cap:List SV} {fn:Func} {c0:Nat} {r0 r1 r2 r:Res} {F:Leaf→Nat→Option Res} (hg:y.get g=some (.fn gf cap)) (hrd:rdOKS y=true) (hrs:some l ∉ rdsS y) (hl:lookN l y.lp=none) (hy:y.ylds l=false) (hyc:SV.yldsL l cap=false)
  (hcal:callable P gf=true) (hf:P.funcs[gf]? = some fn) (hb:fn.body=some cb) (hle:(SV.yld l::cap).length≤fn.ntmps) (hres:fn.results = #[]) (H:Snd P [c0] (.code gf cb lcb lvb) (y.loopIn l fn.ntmps (.yld l::cap) ⟨y.sv.length,ps,a,b,none⟩) r0)
  (h1:endL r0=some r1) (h2:mergeAll y.g false r1=some r2) (h:thenL r2 F=some r)
  (hF:∀ lf c r3,F lf c=some r3→(lf.s.sv.length=y.sv.length+1∧lpD' lf.s.lp=(l,y.sv.length)::lpD' y.lp∧isThr lf.e=false)∧∃ nm q ql,lf.s.lp=(nm,q)::ql∧∃ e,r3=one e .dead (lf.s.loopOutR y.rd) c∧((q.pending=none∧e = .norm)∨(∃ i,q.pending=some (some (.exit i))∧e = .exit i)∨(q.pending=some (some .ret)∧e = .ret))) :
  Snd P p (.code f (.rangeFunc g ps a b) lc lv) y r:=by
 have hl1:=endL_lp h1 H.lp
 have hl2:=mergeAll_lp h2 hl1
 constructor
 ·intro lf' hl'
  obtain ⟨lf,k1,c1,r3,k2,k3⟩:=then_mem h lf' hl'
  obtain ⟨⟨k4,_⟩,nm,q,ql,k5,e,rfl,_⟩:=hF lf c1 r3 k2
  rw [one_mem k3]
  show lpS (lf.s.loopOutR y.rd).lp=lpS y.lp
  rw [loopOutR_lpS k5 (by intro e;rw [e] at k4;simp at k4)]
  have:=hl2 lf k1
  rw [k5] at this
  simp only [Sy.loopIn,lpS,List.map_cons,List.cons.injEq] at this
  exact this.2
 ·intro env s hI hw R hs
  have hgv:=hI.get hg
  simp only [InstV] at hgv
  obtain ⟨cv,e1,e2⟩:=hgv
  have hrd' : s.rd=none∨∃ l0 q0,s.rd=some l0∧isH l0=false∧lookN l0 s.lp=some q0∧some l0∈s.sv.map (·.rd):=by
   rw [hI.rd,hI.lp]
   unfold rdOKS at hrd
   split at hrd
   ·rename_i e;exact .inl e
   ·rename_i l0 e
    simp only [Bool.and_eq_true,List.contains_eq_mem,decide_eq_true_eq,Bool.not_eq_true'] at hrd
    obtain ⟨hnh,hrd⟩:=hrd
    obtain ⟨q0,hq0⟩:=Option.isSome_iff_exists.1 hrd.1
    refine .inr ⟨l0,q0,e,hnh,hq0,?_⟩
    have hrr:=rds_eq hI
    simp only [rds,rdsS,List.cons.injEq] at hrr
    rw [hrr.2];exact hrd.2
  refine TC_rangeFuncA l [c0] hrd' (by rw [rds_eq hI];exact hrs) (by rw [hI.lp];exact hl) (hI.ylds hy) e1 (e2.ylds l hyc) hcal hf hb (by simp only [List.length_cons] at hle ⊢; rw [e2.len];exact hle) (TC_post ?_)
  have hargs:InstL env (.yld l::cap) (.yld l::cv):=⟨_,_,rfl,rfl,e2⟩
  rw [hI.sv.len]
  refine H.go env _ (hI.loopIn l fn.ntmps hargs _) hw _ ?_
  have k1:=(mergeAll_ok callV_wf h2 hI.g hw hl1).2 (R:=fun e s'=>isThr e=false∧s'.sv.length=s.sv.length+1∧lpD s'.lp=(l,s.sv.length)::lpD s.lp∧match s'.lp with
   | (_,q)::_=>match q.pending with
    | none=>R .norm (s'.loopOutR s.rd)
    | some none=>False
    | some (some c)=>ev P (semsT P) [c0] c (s'.loopOutR s.rd) R
   | []=>False) (lq_mono (fun lf hlf e=>?_) (then_sat h hw hs))
  ·refine lq_mono ?_ (endL_sat h1 k1)
   rintro lf hlf e hq s' hs'
   have:=hq s' hs'
   cases he:lf.e with
   | exit i=>rw [he] at this;exact this.elim
   | thr t=>rw [he] at this;obtain ⟨s2,w2,e0,_⟩:=this;cases e0
   | norm=>rw [he] at this;obtain ⟨s2,w2,e0,e2,e3,e4⟩:=this;exact ⟨s2,w2,trivial,e2,e3,by rw [hres];exact e4⟩
   | ret=>rw [he] at this;obtain ⟨s2,w2,e0,e2,e3,e4⟩:=this;exact ⟨s2,w2,trivial,e2,e3,by rw [hres];exact e4⟩
  ·rintro ⟨hwe,c1,r3,g1,g2⟩ s' hs'
   obtain ⟨⟨d1,d2,d0⟩,nm,q,ql,d3,ex,rfl,d4⟩:=hF lf c1 r3 g1
   have d5:=one_sat g2 _ (hs'.loopOutR y.rd)
   rw [← hI.rd] at d5
   refine ⟨d0,by rw [hs'.sv.len,hI.sv.len];exact d1,by rw [hs'.lp,hI.lp,hI.sv.len];exact d2,?_⟩
   rw [hs'.lp,d3]
   simp only
   rcases d4 with ⟨d6,rfl⟩ | ⟨i,d6,rfl⟩ | ⟨d6,rfl⟩
   ·rw [d6];exact d5
   ·rw [d6];exact d5
   ·rw [d6];exact d5
end
end Go.Tx
namespace Go.Tx
open Go Go.Ab
section
variable {P:Program} {CS:Calls'} {env:List Val} {y:Sy} {s:Sa} {p:Name}
theorem Inst.setRd (h:Inst env y s) (r:Option Name):Inst env { y with rd:=r } { s with rd:=r }:=⟨h.g,rfl,h.n,h.ts,h.sv,h.bx,h.lp,h.ow,h.vc⟩
theorem Inst.unthr (h:Inst env y s):Inst env y.unthr s.unthr :=
 ⟨h.g,rfl,by simp only [Sa.unthr,Sy.unthr,h.n],⟨_,_,by simp only [Sa.unthr,h.n],rfl,h.ts⟩,h.sv,h.bx,h.lp,h.ow,h.vc⟩
theorem Inst.handed (h:Inst env y s) (H:HandI) {caps:List SV} {cs:List V} (nm:Name) {z:SV} {v:V} (hc:InstL env caps cs) (hv:InstV env z v):Inst env (y.handed H caps nm z) (s.handed H cs nm v) :=
 ⟨h.g,rfl,rfl,⟨_,_,rfl,rfl,InstK.argS 0 hc⟩,(h.push H.nt hc).sv,⟨_,_,rfl,hv,h.bx⟩,h.lp,h.ow,h.vc⟩
theorem notNil_ne {v:V} (h:v.notNil=true):v ≠ .nil:=fun e=>by rw [e] at h;cases h
theorem handPre_ok {H:HandI} {caps:List SV} {cs:List V} {z:SV} {v:V} (h:handPre P H p y caps z=true) (hI:Inst env y s) (hc:InstL env caps cs) (hv:InstV env z v):HandPre P H p s cs v:=by
 simp only [handPre,Bool.and_eq_true,Bool.not_eq_true',decide_eq_true_eq] at h
 obtain ⟨⟨⟨⟨⟨h1,h2⟩,h3⟩,h4⟩,h5⟩,h6⟩:=h
 obtain ⟨q1,q2⟩:=sizeS_ok h6 hv
 have hn:lookN (H.y::p) y.bx=none:=by
  cases hx:lookN (H.y::p) y.bx with
  | none=>rfl
  | some a=>rw [hx] at h2;cases h2
 exact ⟨hI.refs h1,(hI.bx.look).2 hn,InstL.refs _ hc h3,hv.refs _ h4,q2,q1,notNil_ne (notNilS_ok h5 hv)⟩
theorem markTs_ok {c:Nat}:∀ {caps:List SV} {cs:List V} {ts:List Nat},markTs c caps=some ts→InstL env caps cs→∀ v∈cs,∃ t∈ts,v = .ptr [t,c] 0
 | [],cs,ts,h,hI=>by simp only [InstL] at hI;subst hI;simp
 | z::zs,cs,ts,h,hI=>by
  unfold markTs at h
  split at h
  ·rename_i e;cases e
  ·rename_i t c' zs' e
   cases e
   split at h
   ·rename_i ec
    subst ec
    obtain ⟨ts',h1,rfl⟩:=Option.map_eq_some_iff.1 h
    simp only [InstL,InstV] at hI
    obtain ⟨_,vs',rfl,rfl,hI⟩:=hI
    intro v hv
    rcases List.mem_cons.1 hv with rfl | hv
    ·exact ⟨t,List.mem_cons_self,rfl⟩
    ·obtain ⟨t',h2,h3⟩:=markTs_ok h1 hI v hv
     exact ⟨t',List.mem_cons_of_mem _ h2,h3⟩
   ·cases h
  ·cases h
theorem markTs_env {c:Nat} {e' : List Val}:∀ {caps:List SV} {cs:List V} {ts:List Nat},markTs c caps=some ts→InstL env caps cs→InstL e' caps cs
 | [],cs,ts,h,hI=>hI
 | z::zs,cs,ts,h,hI=>by
  unfold markTs at h
  split at h
  ·rename_i e;cases e
  ·rename_i t c' zs' e
   cases e
   split at h
   ·obtain ⟨ts',h1,rfl⟩:=Option.map_eq_some_iff.1 h
    simp only [InstL,InstV] at hI ⊢
    obtain ⟨v,vs',e1,e2,hI⟩:=hI
    exact ⟨v,vs',e1,e2,markTs_env h1 hI⟩
   ·cases h
  ·cases h
theorem markOf_env {caps:List SV} {cs:List V} {mk:Name} {e' : List Val} (h:markOf caps=some mk) (hI:InstL env caps cs):InstL e' caps cs:=by
 unfold markOf at h
 split at h
 ·rename_i t c zs
  obtain ⟨ts,h1,rfl⟩:=Option.map_eq_some_iff.1 h
  simp only [InstL,InstV] at hI ⊢
  obtain ⟨v,vs',e1,e2,hI⟩:=hI
  exact ⟨v,vs',e1,e2,markTs_env h1 hI⟩
 ·cases h
theorem markOf_ok {caps:List SV} {cs:List V} {mk:Name} (h:markOf caps=some mk) (hI:InstL env caps cs):isH mk=true∧∀ v∈cs,capOK mk v:=by
 unfold markOf at h
 split at h
 ·rename_i t c zs
  obtain ⟨ts,h1,rfl⟩:=Option.map_eq_some_iff.1 h
  refine ⟨rfl,?_⟩
  simp only [InstL,InstV] at hI
  obtain ⟨_,vs',rfl,rfl,hI⟩:=hI
  intro v hv
  rcases List.mem_cons.1 hv with rfl | hv
  ·show [t,c]∈decH (0::c::t::ts)
   simp [decH]
  ·obtain ⟨t',h2,rfl⟩:=markTs_ok h1 hI v hv
   show [t',c]∈decH (0::c::t::ts)
   simp [decH,h2]
 ·cases h
end
section
variable {C:Cx} {rec:Name→Task→Sy→Nat→Option Res} (H:∀ p t y c r,rec p t y c=some r→Snd C.P p t y r) {K:HandC} {rs:List ResultVar} {y:Sy}
include H
theorem handE_lp {base:List (Name×Lp)} {caps:List SV} {c0 c:Nat} {lf:Leaf} {r:Res} (hl:lpS lf.s.lp=lpS base) (h:handE C rec K rs y caps c0 lf c=some r):∀ l∈r.L,lpS l.s.lp=lpS base:=by
 unfold handE at h
 split at h
 ·split at h
  ·split at h
   ·split at h
    ·rename_i r1 h1
     intro l hl'
     obtain ⟨l4,k1,c1,r3,k2,k3⟩:=then_mem h l hl'
     split at k2
     ·split at k2
      ·cases k2
       rw [one_mem k3,pop_lpS,pop_lpS,(H _ _ _ _ _ h1).lp l4 k1];exact hl
      ·cases k2
     ·cases k2
    ·cases h
   ·cases h
  ·split at h
   ·cases h;intro l hl'; rw [one_mem hl',pop_lpS];exact hl
   ·cases h
 ·cases h
theorem handB_lp {base:List (Name×Lp)} {f:FuncId} {lc:LC} {c0 c:Nat} {lf:Leaf} {r:Res} (hl:lpS lf.s.lp=lpS base) (h:handB C rec K f rs lc y c0 lf c=some r):∀ l∈r.L,lpS l.s.lp=lpS base:=by
 unfold handB at h
 split at h
 ·split at h
  ·split at h
   ·split at h
    ·rename_i r1 h1
     split at h
     ·rename_i r2 h2
      split at h
      ·rename_i r3 h3
       intro l hl'
       obtain ⟨l4,k1,c1,r5,k2,k3⟩:=then_mem h l hl'
       refine handE_lp H ?_ k2 l k3
       rw [mergeAll_lp h3 (endL_lp h2 (H _ _ _ _ _ h1).lp) l4 k1]
       exact (show lpS (lf.s.put (some K.d) .dead).lp=lpS lf.s.lp from by rw [put_lpS]).trans hl
      ·cases h
     ·cases h
    ·cases h
   ·cases h
  ·cases h
 ·cases h
theorem handE_ok {env:List Val} {s s' : Sa} {caps:List SV} {cs:List V} {c0 c:Nat} {lf:Leaf} {r:Res} {k:V→Sa→Prop} {kt:TypeId→V→Sa→Prop} (h:handE C rec K rs y caps c0 lf c=some r) (hw:EnvWf env) (hsv:s.sv.length=y.sv.length) (hlp:s.lp=y.lp)
  (hs' : Inst env lf.s s') (hc:InstL env caps cs) (hs:r.t.sat (CallV C.P) noJ (LQ r.L (valQ k kt)) env):LeftH C.P k rs s K.H cs lf.e s':=by
 unfold handE at h
 split at h
 ·rename_i hlen
  refine ⟨by rw [hs'.sv.len,hsv];exact hlen.1,by rw [hs'.lp,hlp];exact hlen.2.1,?_⟩
  split at h
  ·rename_i t he
   rw [he]
   split at h
   ·rename_i hpre
    split at h
    ·rename_i r1 h1
     have hv:=hs'.ts.lk (t:=lf.s.n - 1)
     refine ⟨hpre.1,[c0],by rw [hs'.n];exact handPre_ok hpre.2 hs'.unthr hc hv,?_⟩
     rw [hs'.n]
     refine (H _ _ _ _ _ h1).go env _ (hs'.unthr.handed K.H _ hc hv) hw _ noThr (lq_mono ?_ (then_sat h hw hs))
     rintro l4 hl4 e ⟨hwe,c1,r3,k1,k2⟩
     split at k1
     ·rename_i hc4
      split at k1
      ·rename_i vs hvs
       cases k1
       have fin:∀ s4,Inst e l4.s s4→s4.sv.length=s'.sv.length+1∧lpD s4.lp=lpD s'.lp∧resK C.P s4.pop rs fun vs=>k (mkRes vs) s4.pop.pop:=fun s4 h4 =>
        ⟨by rw [h4.sv.len,hs'.sv.len];exact hc4.2.1,by rw [h4.lp,hs'.lp];exact hc4.2.2,resV_ok hvs h4.pop fun ws hws=>one_sat k2 _ _ h4.pop.pop (mkResS_ok hws)⟩
       unfold opsQ
       cases he4:l4.e with
       | thr t=>rw [he4] at hc4;cases hc4.1
       | _=>exact fin
      ·cases k1
     ·cases k1
    ·cases h
   ·cases h
  ·rename_i hn
   split at h
   ·rename_i vs hvs
    cases h
    have fin:resK C.P s' rs fun vs=>k (mkRes vs) s'.pop:=resV_ok hvs hs' fun ws hws=>one_sat hs _ _ hs'.pop (mkResS_ok hws)
    cases he:lf.e with
    | thr t=>exact absurd he (hn t)
    | exit i=>rw [he] at hlen;cases hlen.2.2
    | _=>exact fin
   ·cases h
 ·cases h
end
theorem Snd.hand {C:Cx} {rec:Name→Task→Sy→Nat→Option Res} (H:∀ p t y c r,rec p t y c=some r→Snd C.P p t y r) {K:HandC} {g:FuncId} {fn:Func} {args:List SV} {y:Sy} {p:Name} {c:Nat} {r:Res} (hK:HandAt C.P g K)
  (hf:C.P.funcs[g]? = some fn) (hle:args.length≤fn.ntmps) (h:handR C rec K g fn.ntmps fn.results.toList args y c=some r):Snd C.P p (.call g args) y r:=by
 unfold handR at h
 simp only at h
 split at h
 ·rename_i r0 h0
  have H0:=H _ _ _ _ _ h0
  constructor
  ·intro l hl
   obtain ⟨l4,k1,c1,r5,k2,k3⟩:=then_mem h l hl
   exact handB_lp H (H0.lp l4 k1) k2 l k3
  ·intro env s hI hw vs k kt hargs hs
   show TCallT C.P kt p g vs s k
   obtain ⟨⟨fn',hf',hb⟩,ho1,ho2,⟨hc1,hc2⟩,hOK⟩:=hK
   rw [hf] at hf'; cases hf'
   refine TCall_hand [c] hf hb ho1.op ho1.dst ho1.guard ho2.op hc1 hc2 ho2.dst ho2.guard hOK (by rw [hargs.len];exact hle) ?_
   refine H0.go env _ (hI.push fn.ntmps hargs) hw _ (lq_mono ?_ (then_sat h hw hs))
   rintro lf hlf e ⟨hwe,c1,r1,e1,e2⟩ s1 hs1
   unfold handB at e1
   split at e1
   ·rename_i caps he hcap hrd
    split at e1
    ·rename_i mk hmk
     split at e1
     ·rename_i hd
      split at e1
      ·rename_i r2 h2
       split at e1
       ·rename_i r3 h3
        split at e1
        ·rename_i r4 h4
         have hcs:InstL e caps (K.caps.toList.map s1.get):=getAll_ok (fun o x hx=>hs1.get hx) hcap
         obtain ⟨m1,m2⟩:=markOf_ok hmk hcs
         refine ⟨he,by rw [hs1.n];exact hd.1,by rw [hs1.rd];exact hrd,mk,m1,m2,?_,?_⟩
         ·have:=hcs.len
          simp only [List.length_map,Array.length_toList] at this
          rw [this];exact hd.2
         have hs1' : Inst e ({ lf.s.put (some K.d) .dead with rd:=some mk }) ({ s1.put (some K.d) .dead with rd:=some mk }):=(hs1.put (some K.d) (x:=.dead) (v:=.dead) (by simp only [InstV])).setRd (some mk)
         have H2:=H _ _ _ _ _ h2
         refine TC_post (show TC C.P [c] K.rest _ _ from H2.go e _ hs1' hwe _ ?_)
         have k1:=(mergeAll_ok callV_wf h4 hs1.g hwe (endL_lp h3 H2.lp)).2 (R:=LeftH C.P k fn.results.toList s K.H (K.caps.toList.map s1.get)) (lq_mono (fun lf2 hlf2 e5=>?_) (then_sat e1 hwe e2))
         ·refine lq_mono ?_ (endL_sat h3 k1)
          rintro lf2 hlf2 e5 hq s' hs'
          have:=hq s' hs'
          cases he5:lf2.e with
          | exit i=>rw [he5] at this;exact this.elim
          | norm=>rw [he5] at this;obtain ⟨s2,w2,e2⟩:=this;exact ⟨s2,w2,e2⟩
          | ret=>rw [he5] at this;obtain ⟨s2,w2,e2⟩:=this;exact ⟨s2,w2,e2⟩
          | thr t=>rw [he5] at this;obtain ⟨s2,w2,e2⟩:=this;exact ⟨s2,w2,e2⟩
         ·rintro ⟨hwe2,c2,r5,e3,e4⟩ s2 hs2
          exact handE_ok H e3 hwe2 hI.sv.len hI.lp hs2 (markOf_env hmk hcs) e4
        ·cases e1
       ·cases e1
      ·cases e1
     ·cases e1
    ·cases e1
   ·cases e1
 ·cases h
end Go.Tx
namespace Go.Tx
open Go Go.Ab
theorem isNone_of {α:Type} {x:Option α} (h:x.isNone=true):x=none:=by cases x <;> simp_all
set_option maxHeartbeats 4000000 in
theorem cmp_sound {C:Cx} (hm:C.P.follows .mixedOrders=true) (hsp:SpOK C.P C.sp):∀ (n:Nat) (p:Name) (t:Task) (y:Sy) (c:Nat) (r:Res),cmp C n p t y c=some r→Snd C.P p t y r
 | 0,p,t,y,c,r,h=>by simp [cmp] at h
 | n+1,p,.code f cd lc lv,y,c,r,h=>by
  have H:=cmp_sound hm hsp n
  cases cd with
  | skip=>simp only [cmp] at h;cases h;exact .skip
  | label l=>simp only [cmp] at h;cases h;exact .label
  | scope b=>simp only [cmp] at h;exact .scope (H _ _ _ _ _ h)
  | exit i=>simp only [cmp] at h;cases h;exact .exit
  | ret=>simp only [cmp] at h;cases h;exact .ret
  | region id ops b =>
   cases b with
   | false =>
    simp only [cmp] at h
    obtain ⟨r0,h1,rfl⟩:=Option.map_eq_some_iff.1 h
    exact .region (H _ _ _ _ _ h1)
   | true =>
    simp only [cmp] at h
    have key:∀ {pc:Bool} {r:Res},(if coreB ops (coreOf C pc ops).1 (coreOf C pc ops).2.1 (coreOf C pc ops).2.2=true then (cmp C n p (.core f ops (coreOf C pc ops).1 (coreOf C pc ops).2.2 (coreOf C pc ops).1 (coreOf C pc ops).2.1 [] []) (killS ops ((coreOf C pc ops).1++(coreOf C pc ops).2.1) (stripAll (coreIds C p ops (coreOf C pc ops).1 (coreOf C pc ops).2.2 (coreOf C pc ops).2.1 y) y)) c).map fun r=>keepR lv (mapL endOp r) else none)=some r→Snd C.P p (.code f (.region id ops true) lc lv) y r:=by
     intro pc r h
     split at h
     ·rename_i hp
      obtain ⟨r0,h1,rfl⟩:=Option.map_eq_some_iff.1 h
      exact .draw hm hp (H _ _ _ _ _ h1)
     ·cases h
    split at h
    ·rename_i r9 h9
     cases h
     exact key h9
    ·exact key h
  | seq a b =>
   simp only [cmp] at h
   split at h
   ·rename_i r0 h1
    refine .seq (lvb:=lv) (lb:=lc.b) (H _ _ _ _ _ h1) h ?_ ?_
    ·intro lf c r1 he hF
     simp only [he] at hF
     exact H _ _ _ _ _ hF
    ·intro lf c r1 he hF
     split at hF
     ·contradiction
     ·cases hF;rfl
   ·cases h
  | cond cd a b =>
   simp only [cmp] at h
   split at h
   ·rename_i hc;exact .cond_k hc (H _ _ _ _ _ h)
   ·rename_i hc;exact .cond_k hc (H _ _ _ _ _ h)
   ·rename_i x _ _ hc
    split at h
    ·rename_i r1 h1
     split at h
     ·rename_i r2 h2
      exact .cond hc (H _ _ _ _ _ h1) (H _ _ _ _ _ h2) h
     ·cases h
    ·cases h
   ·cases h
  | block id b =>
   simp only [cmp] at h
   split at h
   ·rename_i r0 h1
    exact .block (H _ _ _ _ _ h1) h
   ·cases h
  | loop b =>
   simp only [cmp] at h
   split at h
   ·rename_i hf
    split at h
    ·rename_i r0 h1
     have e:(headY y.g (C.hl c) (keepTs lc.l (prepY (hIds (C.hl c)) (hCv (C.hl c)) y))).1.lp=y.lp:=(headY_lp (g0:=y.g) (h:=C.hl c) (y:=keepTs lc.l (prepY (hIds (C.hl c)) (hCv (C.hl c)) y))).trans (prepY_lp (ids:=hIds (C.hl c)) (cv:=hCv (C.hl c)) (y:=y))
     exact Snd.loop (yL:=(headY y.g (C.hl c) (keepTs lc.l (prepY (hIds (C.hl c)) (hCv (C.hl c)) y))).1) e hf.1 hf.2 (H _ _ _ _ _ h1) h
    ·cases h
   ·cases h
  | rangeFunc g ps a b =>
   simp only [cmp] at h
   split at h
   ·rename_i gf cap hg
    split at h
    ·rename_i hb
     simp only [Bool.and_eq_true,Bool.not_eq_true',List.contains_eq_mem,decide_eq_false_iff_not] at hb
     obtain ⟨⟨⟨⟨⟨b1,b2⟩,b3⟩,b4⟩,b5⟩,b6⟩:=hb
     split at h
     ·rename_i fn hfn
      split at h
      ·rename_i cb hcb
       split at h
       ·rename_i hle
        split at h
        ·rename_i r0 h0
         split at h
         ·rename_i r1 h1
          split at h
          ·rename_i r2 h2
           refine .range (l:=[c,f]) hg b1 b2 (isNone_of b3) b4 b5 b6 hfn hcb hle.1 hle.2 (H _ _ _ _ _ h0) h1 h2 h ?_
           intro lf c1 r3 hF
           split at hF
           ·rename_i hlen
            refine ⟨hlen,?_⟩
            split at hF
            ·rename_i nm q ql hlp
             refine ⟨nm,q,ql,hlp,?_⟩
             split at hF
             ·rename_i hp;cases hF;exact ⟨_,rfl,.inl ⟨hp,rfl⟩⟩
             ·rename_i i hp;cases hF;exact ⟨_,rfl,.inr (.inl ⟨i,hp,rfl⟩)⟩
             ·rename_i hp;cases hF;exact ⟨_,rfl,.inr (.inr ⟨hp,rfl⟩)⟩
             ·cases hF
            ·cases hF
           ·cases hF
          ·cases h
         ·cases h
        ·cases h
       ·cases h
      ·cases h
     ·cases h
    ·cases h
   ·cases h
  | _=>simp [cmp] at h
 | n+1,p,.ops f all l,y,c,r,h=>by
  have H:=cmp_sound hm hsp n
  cases l with
  | nil=>simp only [cmp] at h;cases h;exact .onil
  | cons o rest =>
   simp only [cmp] at h
   split at h
   ·rename_i t x hth
    split at h
    ·rename_i hd
     split at h
     ·rename_i z hz
      cases h
      exact .othr hth hd hz
     ·cases h
    ·cases h
   rename_i hth
   split at h
   ·rename_i bs y1 h1
    obtain ⟨r0,h2,rfl⟩:=Option.map_eq_some_iff.1 h
    exact .oone hth h1 (H _ _ _ _ _ h2)
   ·unfold orSoft at h
    split at h
    case h_2 =>
     split at h
     ·cases h;exact .soft
     ·cases h
    rename_i r9 h9
    cases h
    have h:=h9
    clear h9
    split at h
    ·rename_i hd
     split at h
     ·rename_i hg
      exact .ocall H hth hd hg h
     ·rename_i j want hg
      split at h
      ·rename_i t ht
       split at h
       ·rename_i b hk
        split at h
        ·rename_i e;subst e
         exact .ocallK H hth hd hg ht hk h
        ·cases h
       ·rename_i x _ hk
        split at h
        ·rename_i r1 h1
         split at h
         ·rename_i r2 h2
          cases h
          exact .ocallG H hth hd hg ht hk h1 h2
         ·cases h
        ·cases h
       ·cases h
      ·cases h
    ·cases h
 | n+1,p,.core f all fl0 js fl al V0 hbs,y,c,r,h=>by
  have H:=cmp_sound hm hsp n
  simp only [cmp] at h
  split at h
  ·cases h
  ··rename_i bs hn y2 h2
    split at h
    ·split at h
     ·rename_i hs
      cases h
      exact .core0 h2 hs
     ·cases h
    ·rename_i j js'
     split at h
     ·rename_i oj hj
      split at h
      ·rename_i hs
       split at h
       ·rename_i r1 h1
        obtain ⟨r2,h3,rfl⟩:=Option.map_eq_some_iff.1 h
        refine .core1 h2 hs hj (H _ _ _ _ _ h1) h3 fun lf c r' hF=>?_
        split at hF
        ·rename_i r3 h4
         split at hF
         ·rename_i hk
          cases hF
          exact ⟨(H _ _ _ _ _ h4).lp,.inl ⟨hk,H _ _ _ _ _ h4⟩⟩
         ·cases hF
          exact ⟨(H _ _ _ _ _ h4).lp,.inr rfl⟩
        ·cases hF
       ·cases h
      ·cases h
     ·cases h
 | n+1,p,.call g args,y,c,r,h=>by
  have H:=cmp_sound hm hsp n
  simp only [cmp] at h
  split at h
  ·rename_i bs y1 z1 hq
   cases h
   exact .quick hsp hq
  split at h
  ·rename_i i u q hq
   exact .csoft hq (H _ _ _ _ _ h)
  split at h
  ·rename_i K hK
   split at h
   ·rename_i fn hfn
    split at h
    ·rename_i hle
     exact .hand H (hsp g _ hK) hfn hle h
    ·cases h
   ·cases h
  split at h
  ·rename_i fn hfn
   split at h
   ·rename_i cb hcb
    split at h
    ·rename_i hle
     split at h
     ·rename_i r0 h0
      split at h
      ·rename_i r1 h1
       split at h
       ·rename_i r2 h2
        refine .call hfn hcb hle (H _ _ _ _ _ h0) h1 h2 h ?_
        intro lf c1 r3 hF
        split at hF
        ·rename_i hlen
         split at hF
         ·rename_i t he
          cases hF
          exact ⟨hlen,.inl ⟨t,he,rfl⟩⟩
         ·rename_i hn
          split at hF
          ·rename_i vs hvs
           cases hF
           exact ⟨hlen,.inr ⟨fun t e=>hn t e,vs,hvs,rfl⟩⟩
          ·cases hF
        ·cases hF
       ·cases h
      ·cases h
     ·cases h
    ·cases h
   ·cases h
  ·cases h
 | n+1,p,.yld l args,y,c,r,h=>by
  have H:=cmp_sound hm hsp n
  simp only [cmp] at h
  split at h
  ·rename_i q hl
   split at h
   ·rename_i f hf
    split at h
    ·rename_i hps
     split at h
     ·rename_i r1 h1
      refine .yld (lc':=(annot q.body lv0).2) (lv':=lv0) hps.1 hl hf hps.2.1 hps.2.2 (H _ _ _ _ _ h1) h ?_
      intro lf c1 r3 hF
      split at hF
      ·rename_i he
       refine ⟨he,?_⟩
       split at hF
       ·rename_i q1 hq1
        refine ⟨q1,hq1,?_⟩
        split at hF
        ·rename_i hpn
         refine ⟨isNone_of hpn,?_⟩
         split at hF
         ·rename_i r2 h2
          split at hF
          ·rename_i r2' h3
           refine ⟨_,r2,r2',_,H _ _ _ _ _ h2,h3,hF,?_⟩
           intro lf2 c2 r4 hG
           split at hG
           ·rename_i hlen
            refine ⟨hlen,?_⟩
            split at hG
            ·rename_i q2 hq2
             cases hG
             exact ⟨q2,hq2,rfl⟩
            ·cases hG
           ·cases hG
          ·cases hF
         ·cases hF
        ·cases hF
       ·cases hF
      ·cases hF
     ·cases h
    ·cases h
   ·cases h
  ·cases h
end Go.Tx
namespace Go.Tx
open Go Go.Ab
abbrev TupD:List Ty→Type
 | []=>Unit
 | [t]=>t.den
 | t::u::ts=>t.den×TupD (u::ts)
def toVs:(ts:List Ty)→TupD ts→List Val
 | [],_=>[]
 | [t],x=>[⟨t,x⟩]
 | t::u::ts,x=>⟨t,x.1⟩::toVs (u::ts) x.2
def castV (t:Ty) (v:Val):Option t.den:=if h:v.1=t then some (h ▸ v.2) else none
def ofVs:(ts:List Ty)→List Val→Option (TupD ts)
 | [],[]=>some ()
 | [t],[v]=>castV t v
 | t::u::ts,v::vs=>match castV t v,ofVs (u::ts) vs with
  | some a,some b=>some (a,b)
  | _,_=>none
 | _,_=>none
theorem castV_eq {t:Ty} {v:Val} {x:t.den} (h:castV t v=some x):v=⟨t,x⟩:=by
 unfold castV at h
 split at h
 ·rename_i e;subst e;cases h;rfl
 ·cases h
theorem ofVs_eq:∀ {ts:List Ty} {vs:List Val} {x:TupD ts},ofVs ts vs=some x→vs=toVs ts x
 | [],[],x,h=>rfl
 | [],_::_,x,h=>by simp [ofVs] at h
 | [t],[],x,h=>by simp [ofVs] at h
 | [t],[v],x,h=>by
  simp only [ofVs] at h
  rw [castV_eq h];rfl
 | [t],_::_::_,x,h=>by simp [ofVs] at h
 | t::u::ts,[],x,h=>by simp [ofVs] at h
 | t::u::ts,v::vs,x,h=>by
  simp only [ofVs] at h
  split at h
  ·rename_i a b h1 h2
   cases h
   rw [castV_eq h1,ofVs_eq h2];rfl
  ·cases h
theorem toVs_ty:∀ {ts:List Ty} {x:TupD ts},(toVs ts x).map (·.1)=ts
 | [],_=>rfl
 | [t],_=>rfl
 | t::u::ts,x=>by
  have:=toVs_ty (ts:=u::ts) (x:=x.2)
  simp only [toVs,List.map_cons,this]
section
variable {σ ρ:Type}
def iterO (body:σ→Option (σ ⊕ ρ)):Nat→σ→Option ρ
 | 0,_=>none
 | n+1,s=>match body s with
  | none=>none
  | some (.inl s')=>iterO body n s'
  | some (.inr r)=>some r
open Classical in
noncomputable def whileO (body:σ→Option (σ ⊕ ρ)) (s:σ):Option ρ:=if h:∃ r n,iterO body n s=some r then some h.choose else none
theorem iterO_succ {body:σ→Option (σ ⊕ ρ)}:∀ {n:Nat} {s:σ} {r:ρ},iterO body n s=some r→iterO body (n+1) s=some r
 | 0,s,r,h=>by cases h
 | n+1,s,r,h=>by
  rw [iterO] at h ⊢
  split at h
  ·cases h
  ·exact iterO_succ h
  ·exact h
theorem iterO_le {body:σ→Option (σ ⊕ ρ)} {n m:Nat} {s:σ} {r:ρ} (h:iterO body n s=some r) (hm:n≤m):iterO body m s=some r:=by
 induction hm with
 | refl=>exact h
 | step _ ih=>exact iterO_succ ih
theorem whileO_iff {body:σ→Option (σ ⊕ ρ)} {s:σ} {r:ρ}:whileO body s=some r↔∃ n,iterO body n s=some r:=by
 unfold whileO
 constructor
 ·intro h
  split at h
  ·rename_i hh
   cases h
   exact hh.choose_spec
  ·cases h
 ·rintro ⟨n,h⟩
  have hh:∃ r n,iterO body n s=some r:=⟨r,n,h⟩
  rw [dif_pos hh]
  obtain ⟨m,hm⟩:=hh.choose_spec
  have h1:=iterO_le h (Nat.le_max_left n m)
  have h2:=iterO_le hm (Nat.le_max_right n m)
  rw [h1] at h2
  rw [← h2]
theorem whileO_step {body:σ→Option (σ ⊕ ρ)} {s:σ}:whileO body s=match body s with
  | none=>none
  | some (.inl s')=>whileO body s'
  | some (.inr r)=>some r:=by
 apply Option.ext
 intro r
 rw [whileO_iff]
 constructor
 ·rintro ⟨n,h⟩
  cases n with
  | zero=>cases h
  | succ n =>
   rw [iterO] at h
   split at h
   ·cases h
   ·exact whileO_iff.2 ⟨n,h⟩
   ·exact h
 ·intro h
  split at h
  ·cases h
  ·rename_i s' hb
   obtain ⟨n,hn⟩:=whileO_iff.1 h
   exact ⟨n+1,by rw [iterO,hb];exact hn⟩
  ·rename_i r' hb
   exact ⟨1,by rw [iterO,hb];exact h⟩
end
def letJ {σ ρ:Type} (k:σ→Option ρ) (body:(σ→Option ρ)→Option ρ):Option ρ:=body k
def letV {α β:Type} (a:α) (k:α→β):β:=k a
def guardO (b:Bool):Option Unit:=if b=true then some () else none
def turn {σ ρ:Type} (s:σ):Option (σ ⊕ ρ):=some (.inl s)
def done {σ ρ:Type} (r:Option ρ):Option (σ ⊕ ρ):=r.map .inr
abbrev CFun:=Nat→List Val→(t:Ty)→Option t.den
def castO {t u:Ty} (x:Option t.den):Option u.den:=if h:t=u then h ▸ x else none
theorem castO_eq {t u:Ty} {x:Option t.den} {y:u.den} (h:castO (u:=u) x=some y):∃ a,x=some a∧(⟨t,a⟩:Val)=⟨u,y⟩:=by
 unfold castO at h
 split at h
 ·rename_i e;subst e;exact ⟨y,h,rfl⟩
 ·cases h
def B.run (F:CFun) (env:List Val):B→(t:Ty)→Option t.den
 | .lets x,t=>match x.val env with
  | some v=>castV t v
  | none=>none
 | .guard c,t=>match c.val env with
  | some ⟨.bool,b⟩=>castO (t:=.unit) (guardO b)
  | _=>none
 | .r2 o x y,t=>match x.val env,y.val env with
  | some a,some b=>match rel2 o a.1 b.1 with
   | some r=>castO (r.2 a.2 b.2)
   | none=>none
  | _,_=>none
 | .r3 o x y z,t=>match x.val env,y.val env,z.val env with
  | some a,some b,some d=>match rel3 o a.1 b.1 d.1 with
   | some r=>castO (r.2 a.2 b.2 d.2)
   | none=>none
  | _,_,_=>none
 | .call g args,t=>match evs env args with
  | some vs=>F g vs t
  | none=>none
 | .list u es,t=>match evs env es with
  | some vs=>match castL u vs with
   | some l=>if es.length≤16777216 then castO (t:=.sl u) (some l) else none
   | none=>none
  | none=>none
 | .ifb gs b u,t=>if u=t then (match holds env gs with
  | some c=>if c=true then b.run F env t else some t.zero
  | none=>none) else none
noncomputable def T.run (F:CFun):T→(ρ:Type)→List Val→List (List Val→Option ρ)→Option ρ
 | .fail,ρ,env,js=>none
 | .hole _,ρ,env,js=>none
 | .jump j es,ρ,env,js=>match js[j]? with
  | some k=>match evs env es with
   | some vs=>k vs
   | none=>none
  | none=>none
 | .bind b t k,ρ,env,js=>match b with
  | .lets x=>match x.val env with
   | some v=>match castV t v with
    | some a=>letV a fun a=>k.run F ρ (env++[⟨t,a⟩]) js
    | none=>none
   | none=>none
  | b=>Option.bind (b.run F env t) fun a=>k.run F ρ (env++[⟨t,a⟩]) js
 | .ite c x y,ρ,env,js=>match c.val env with
  | some ⟨.bool,b⟩=>if b=true then x.run F ρ env js else y.run F ρ env js
  | _=>none
 | .letj ps k body,ρ,env,js=>letJ (σ:=TupD ps) (fun st=>k.run F ρ (env++toVs ps st) js) fun j=>body.run F ρ env ((fun vs=>match ofVs ps vs with | some st=>j st | none=>none)::js)
 | .loop ps init body,ρ,env,js=>match evs env init with
  | some vs=>match ofVs ps vs with
   | some st=>whileO (fun st=>body.run F (TupD ps ⊕ ρ) (env++toVs ps st) ((fun vs=>match ofVs ps vs with | some st=>turn st | none=>none)::js.map fun k vs=>done (k vs))) st
   | none=>none
  | none=>none
 | .range _ _ _ _ _,ρ,env,js=>none
def CFok (P:Program) (F:CFun):Prop:=∀ g vs t x,EnvWf vs→F g vs t=some x→CallV P g vs ⟨t,x⟩
section
variable {P:Program} {F:CFun}
theorem B.run_ok (hF:CFok P F) {env:List Val} (hw:EnvWf env):∀ {b:B} {t:Ty} {x:t.den},b.run F env t=some x→b.ok (CallV P) env ⟨t,x⟩:=by
 intro b
 induction b with
 | lets e =>
  intro t x h
  simp only [B.run] at h
  split at h
  ·rename_i v hv
   simp only [B.ok]
   rw [hv,castV_eq h]
  ·cases h
 | guard c =>
  intro t x h
  simp only [B.run] at h
  split at h
  ·rename_i b hb
   obtain ⟨a,h1,h2⟩:=castO_eq h
   unfold guardO at h1
   split at h1
   ·rename_i e;subst e
    simp only [B.ok]
    exact ⟨hb,h2.symm⟩
   ·cases h1
  ·cases h
 | r2 o e f =>
  intro t x h
  simp only [B.run] at h
  split at h
  ·rename_i a b ha hb
   split at h
   ·rename_i r hr
    obtain ⟨c,h1,h2⟩:=castO_eq h
    exact ⟨a,b,r,c,ha,hb,hr,h1,h2.symm⟩
   ·cases h
  ·cases h
 | r3 o e f g =>
  intro t x h
  simp only [B.run] at h
  split at h
  ·rename_i a b d ha hb hd
   split at h
   ·rename_i r hr
    obtain ⟨c,h1,h2⟩:=castO_eq h
    exact ⟨a,b,d,r,c,ha,hb,hd,hr,h1,h2.symm⟩
   ·cases h
  ·cases h
 | call g args =>
  intro t x h
  simp only [B.run] at h
  split at h
  ·rename_i vs hvs
   exact ⟨vs,hvs,hF g vs t x (evs_wf hw hvs) h⟩
  ·cases h
 | list u es =>
  intro t x h
  simp only [B.run] at h
  split at h
  ·rename_i vs hvs
   split at h
   ·rename_i l hl
    split at h
    ·rename_i hlen
     obtain ⟨c,h1,h2⟩:=castO_eq h
     cases h1
     exact ⟨vs,l,hvs,hl,hlen,h2.symm⟩
    ·cases h
   ·cases h
  ·cases h
 | ifb gs b u ih =>
  intro t x h
  simp only [B.run] at h
  split at h
  ·rename_i e
   subst e
   split at h
   ·rename_i c hc
    refine ⟨c,hc,fun e=>?_,fun e=>?_⟩
    ·rw [if_pos e] at h;exact ⟨ih h,rfl⟩
    ·rw [if_neg (by rw [e];simp)] at h;cases h;rfl
   ·cases h
  ·cases h
theorem js_map {ρ ρ' : Type} {f:(List Val→Option ρ)→(List Val→Option ρ')} {js:List (List Val→Option ρ)} {j:Nat} {k:List Val→Option ρ'} (h:(js.map f)[j]? = some k):∃ k0,js[j]? = some k0∧k=f k0:=by
 rw [List.getElem?_map] at h
 obtain ⟨k0,h1,rfl⟩:=Option.map_eq_some_iff.1 h
 exact ⟨k0,h1,rfl⟩
theorem T.run_sound (hF:CFok P F) {Q:Nat→List Val→Prop}:∀ {t:T} {ρ:Type} {env:List Val} {js:List (List Val→Option ρ)} {J:Jt} {r:ρ},EnvWf env→t.run F ρ env js=some r →
  (∀ j k vs,js[j]? = some k→WfL vs→k vs=some r→J j vs)→t.sat (CallV P) J Q env:=by
 intro t
 induction t with
 | fail=>intro ρ env js J r hw h hJ;simp [T.run] at h
 | hole i=>intro ρ env js J r hw h hJ;simp [T.run] at h
 | jump j es =>
  intro ρ env js J r hw h hJ
  simp only [T.run] at h
  split at h
  ·rename_i k hk
   split at h
   ·rename_i vs hvs
    exact ⟨vs,hvs,hJ j k vs hk (evs_wf hw hvs) h⟩
   ·cases h
  ·cases h
 | bind b t k ih =>
  intro ρ env js J r hw h hJ
  have fin:∀ x:t.den,b.ok (CallV P) env ⟨t,x⟩→k.run F ρ (env++[⟨t,x⟩]) js=some r→(T.bind b t k).sat (CallV P) J Q env :=
   fun x hb hk=>⟨⟨t,x⟩,rfl,hb,ih (hw.snoc (B.ok_wf callV_wf hw hb)) hk hJ⟩
  simp only [T.run] at h
  split at h
  ·rename_i e
   split at h
   ·rename_i v hv
    split at h
    ·rename_i a ha
     refine fin a ?_ h
     simp only [B.ok]
     rw [hv,castV_eq ha]
    ·cases h
   ·cases h
  ·obtain ⟨x,h1,h2⟩:=Option.bind_eq_some_iff.1 h
   exact fin x (B.run_ok hF hw h1) h2
 | ite c x y ihx ihy =>
  intro ρ env js J r hw h hJ
  simp only [T.run] at h
  split at h
  ·rename_i b hb
   refine ⟨b,hb,fun e=>?_,fun e=>?_⟩
   ·rw [if_pos e] at h;exact ihx hw h hJ
   ·rw [if_neg (by rw [e];simp)] at h;exact ihy hw h hJ
  ·cases h
 | letj ps k body ihk ihb =>
  intro ρ env js J r hw h hJ
  simp only [T.run,letJ] at h
  refine ihb hw h ?_
  intro j k' vs hk hwv hr
  cases j with
  | zero =>
   simp only [List.getElem?_cons_zero,Option.some.injEq] at hk
   subst hk;simp only at hr
   split at hr
   ·rename_i st hst
    have e:=ofVs_eq hst
    subst e
    exact ⟨toVs_ty,ihk (hw.app hwv) hr hJ⟩
   ·cases hr
  | succ j=>exact hJ j k' vs (by simpa using hk) hwv hr
 | loop ps init body ih =>
  intro ρ env js J r hw h hJ
  simp only [T.run] at h
  split at h
  ·rename_i vs hvs
   split at h
   ·rename_i st hst
    obtain ⟨n,hn⟩:=whileO_iff.1 h
    refine ⟨n,vs,hvs,?_⟩
    have hwv:=evs_wf hw hvs
    clear h hvs
    induction n generalizing vs st with
    | zero=>cases hn
    | succ n ihn =>
     have e:=ofVs_eq hst
     subst e
     refine ⟨toVs_ty,?_⟩
     rw [iterO] at hn
     split at hn
     ·cases hn
     ·rename_i st' hb
      refine ih (hw.app hwv) hb ?_
      intro j k us hk hwu hr
      cases j with
      | zero =>
       simp only [List.getElem?_cons_zero,Option.some.injEq] at hk
       subst hk;simp only at hr
       split at hr
       ·rename_i st2 hst2
        simp only [turn,Option.some.injEq,Sum.inl.injEq] at hr
        subst hr
        exact ihn us st2 hst2 hn hwu
       ·cases hr
      | succ j =>
       obtain ⟨k0,h1,rfl⟩:=js_map (by simpa using hk)
       simp only [done] at hr
       obtain ⟨a,_,h2⟩:=Option.map_eq_some_iff.1 hr
       cases h2
     ·rename_i r' hb
      cases hn
      refine ih (hw.app hwv) hb ?_
      intro j k us hk hwu hr
      cases j with
      | zero =>
       simp only [List.getElem?_cons_zero,Option.some.injEq] at hk
       subst hk;simp only at hr
       split at hr
       ·simp [turn] at hr
       ·cases hr
      | succ j =>
       obtain ⟨k0,h1,rfl⟩:=js_map (by simpa using hk)
       simp only [done] at hr
       obtain ⟨a,h2,h3⟩:=Option.map_eq_some_iff.1 hr
       cases h3
       exact hJ j k0 us h1 hwu h2
   ·cases h
  ·cases h
 | range ps init l body done ihb ihd=>intro ρ env js J r hw h hJ;simp [T.run] at h
end
end Go.Tx
namespace Go.Tx
open Go Go.Ab
section
variable {P:Program} {CS:Calls'} {env:List Val} {y:Sy} {s:Sa} {p:Name}
theorem varsE_ok:∀ (l:List Val) (pre:List Val),InstL (pre++l) (varsE pre.length (l.map (·.1))) (l.map fun v=>V.d v.d)
 | [],pre=>rfl
 | v::l,pre=>by
  have h:=varsE_ok l (pre++[v])
  rw [List.append_assoc,List.length_append] at h
  refine ⟨_,_,rfl,?_,h⟩
  simp only [InstV]
  refine ⟨v.2,?_,rfl⟩
  simp [E.val]
theorem start_ok {nt:Nat} (vs:List Val):Inst vs (startY (vs.map (·.1)) nt) (s0 nt (vs.map Val.d)) :=
 ⟨rfl,rfl,rfl,by
  have:=varsE_ok vs []
  simp only [List.nil_append,List.length_nil] at this
  have h:=InstK.argS 0 this
  simp only [s0,startY,List.map_map]
  exact h,rfl,rfl,rfl,rfl,rfl⟩
theorem outE_ok:∀ {ts:List TypeId} {zs:List SV} {es:List (Ty×E)} {us:List V},outE P ts zs=some es→InstL env zs us →
  ∃ vals:List Val,evs env (es.map (·.2))=some vals∧vals.map (·.1)=es.map (·.1)∧toDs V.toD us=some (vals.map Val.d)∧∀ r∈es,r.1.ag≠none
 | [],[],es,us,h,hI=>by
  cases h
  simp only [InstL] at hI;subst hI
  exact ⟨[],rfl,rfl,rfl,by simp⟩
 | _::_,[],es,us,h,hI=>by cases h
 | [],z::zs,es,us,h,hI=>by cases h
 | t::ts,z::zs,es,us,h,hI=>by
  simp only [outE] at h
  simp only [InstL] at hI
  obtain ⟨v,vs',rfl,h1,h2⟩:=hI
  split at h
  ·rename_i r rs hr hrs
   split at h
   ·rename_i g hg
    cases h
    obtain ⟨vals,e1,e2,e3,e4⟩:=outE_ok hrs h2
    obtain ⟨a,b1,b2⟩:=asE_ok hr h1
    refine ⟨⟨r.1,a⟩::vals,?_,by simp [e2],?_,?_⟩
    ·simp only [List.map_cons,evs,b1,e1]
    ·simp only [toDs,b2,e3];rfl
    ·intro q hq
     rcases List.mem_cons.1 hq with rfl | hq
     ·rw [hg];simp
     ·exact e4 q hq
   ·cases h
  ·cases h
theorem resD_one {t:Ty} (h:t.ag≠none) (a:t.den):resD t a=[encD t a]:=by
 cases t <;> first | rfl | simp [Ty.ag] at h
theorem tupE_ok:∀ {es:List (Ty×E)} {vals:List Val},evs env (es.map (·.2))=some vals→vals.map (·.1)=es.map (·.1)→(∀ r∈es,r.1.ag≠none) →
  ∃ a,(tupE es).2.val env=some ⟨(tupE es).1,a⟩∧resD (tupE es).1 a=vals.map Val.d
 | [],vals,h,ht,hn=>by
  cases vals with
  | nil=>exact ⟨(),rfl,rfl⟩
  | cons v vals=>simp at ht
 | [r],vals,h,ht,hn=>by
  simp only [List.map_cons,List.map_nil,evs] at h
  split at h
  ·rename_i v vs hv he
   cases he;cases h
   obtain ⟨t,a⟩:=v
   simp only [List.map_cons,List.map_nil,List.cons.injEq,and_true] at ht
   subst ht
   exact ⟨a,hv,resD_one (hn r List.mem_cons_self) a⟩
  ·cases h
 | r::q::rs,vals,h,ht,hn=>by
  have e:(q::rs).map (·.2)=q.2::rs.map (·.2):=rfl
  rw [List.map_cons,evs] at h
  split at h
  ·rename_i v vs hv he
   cases h
   obtain ⟨t,a⟩:=v
   simp only [List.map_cons,List.cons.injEq] at ht
   obtain ⟨ht1,ht2⟩:=ht
   subst ht1
   obtain ⟨b,b1,b2⟩:=tupE_ok (es:=q::rs) he (by rw [List.map_cons];exact ht2) fun x hx=>hn x (List.mem_cons_of_mem _ hx)
   refine ⟨(a,b),?_,?_⟩
   ·show app2 (.pair) (r.2.val env) ((tupE (q::rs)).2.val env)=_
    rw [hv,b1];rfl
   ·show encD r.1 a::resD (tupE (q::rs)).1 b=_
    rw [b2];rfl
  ·cases h
theorem outT_ok {rs:List ResultVar} {rt:List TypeId} {rty:Ty}:∀ {L:List Leaf} {ts:List T},outT P rs rt rty L=some ts→ts.length=L.length∧∀ (i:Nat) (lf:Leaf),L[i]? = some lf→∃ zs es,resV P lf.s rs=some zs∧outE P rt zs=some es∧(tupE es).1=rty∧ts[i]? = some (.jump 0 [(tupE es).2])∧isThr lf.e=false
 | [],ts,h=>by cases h;exact ⟨rfl,fun i lf h=>by simp at h⟩
 | lf::L,ts,h=>by
  simp only [outT] at h
  split at h
  ·rename_i zs hzs
   split at h
   ·rename_i es hes
    split at h
    ·obtain ⟨ts',h1,rfl⟩:=Option.map_eq_some_iff.1 h
     rename_i ht
     obtain ⟨k1,k2⟩:=outT_ok h1
     refine ⟨by simp [k1],fun i lf' hl=>?_⟩
     cases i with
     | zero=>simp at hl;subst hl;exact ⟨zs,es,hzs,hes,ht.1,by simp,ht.2⟩
     | succ i=>simpa using k2 i lf' (by simpa using hl)
    ·cases h
   ·cases h
  ·cases h
theorem cmpF_ok {C:Cx} (hm:C.P.follows .mixedOrders=true) (hsp:SpOK C.P C.sp) {n g:Nat} {as:List Ty} {rty:Ty} {t:T} {lg:Log} (h:cmpF C n g as rty=some (t,lg)) {vs:List Val} (hvs:vs.map (·.1)=as) {r:rty.den}
  (hs:EnvWf vs→t.sat (CallV C.P) (consJ (fun us=>us=[⟨rty,r⟩]) noJ) (fun _ _=>False) vs):PureOK C.P g (vs.map Val.d) (resD rty r):=by
 subst hvs
 unfold cmpF at h
 split at h
 ·rename_i fn hfn
  split at h
  ·rename_i cb hcb
   split at h
   ·rename_i hle
    split at h
    ·rename_i r0 h0
     split at h
     ·rename_i r1 h1
      split at h
      ·rename_i ts hts
       cases h
       refine PureOK.of_bodyT [0] hfn hcb (by rw [List.length_map,← List.length_map (f:=fun x:Val=>x.1)];exact hle.1) (fun hwd=>TC_post ?_)
       have hw:EnvWf vs:=by
        intro v hv
        obtain ⟨i,hi,rfl⟩:=List.mem_iff_getElem.1 hv
        refine Val.wf_of_d ?_ ?_
        ·have:=List.all_eq_true.1 hle.2 vs[i].1 (List.mem_map_of_mem (List.getElem_mem hi))
         exact this
        ·have:=hwd i (by simpa using hi)
         simpa using this
       have H:=cmp_sound hm hsp _ _ _ _ _ _ h0
       refine H.go vs _ (start_ok vs) hw _ ?_
       have k0:=hs hw
       rw [T.sat_sub,T.sat_lift,cut_zero] at k0
       obtain ⟨hlen,k1⟩:=outT_ok hts
       have k2:r1.t.sat (CallV C.P) noJ (LQ r1.L (leafQ fun e s'=>isThr e=false∧∃ s2,Wk s' s2∧resK C.P s2 fn.results.toList fun us=>toDs V.toD us=some (resD rty r))) vs:=by
        refine T.sat_mono (fun _ _ h=>h) ?_ k0
        intro i e hq
        cases htt:ts[i]? with
        | none=>simp [List.getD_eq_getElem?_getD,htt,T.sat] at hq
        | some tt =>
         have hi:i<r1.L.length:=by have:=(List.getElem?_eq_some_iff.1 htt).1;rw [hlen,List.length_map] at this;exact this
         obtain ⟨zs,es,q1,q2,q3,q4,q5⟩:=k1 i (softLf r1.L[i]) (by rw [List.getElem?_map,List.getElem?_eq_getElem hi];rfl)
         rw [htt] at q4
         cases q4
         simp only [List.getD_eq_getElem?_getD,htt,Option.getD_some,T.sat] at hq
         obtain ⟨us,u1,u2⟩:=hq
         have u2:us=[⟨rty,r⟩]:=u2
         subst u2
         refine ⟨r1.L[i],List.getElem?_eq_getElem hi,fun s' hs'=>?_⟩
         obtain ⟨s2,w2,i2⟩:=softAll_ok (ids:=(r1.L[i]).s.vc.map (·.1)) hs'
         refine ⟨q5,s2,w2,resV_ok q1 i2 fun ws hws=>?_⟩
         obtain ⟨vals,v1,v2,v3,v4⟩:=outE_ok q2 hws
         obtain ⟨a,a1,a2⟩:=tupE_ok v1 v2 v4
         simp only [evs] at u1
         split at u1
         ·rename_i v vs' w1 w2
          cases w2
          simp only [Option.some.injEq,List.cons.injEq,and_true] at u1
          subst u1
          rw [a1] at w1
          simp only [Option.some.injEq] at w1
          rw [v3,← a2]
          congr 1
          have:∀ {v w:Val},v=w→resD v.1 v.2=resD w.1 w.2:=fun e=>by rw [e]
          exact this w1
         ·cases u1
       refine lq_mono ?_ (endL_sat h1 k2)
       rintro lf _ e hq s' hs'
       have:=hq s' hs'
       cases he:lf.e with
       | exit i=>rw [he] at this;exact this.elim
       | thr t=>rw [he] at this;obtain ⟨g1,_⟩:=this;cases g1
       | norm=>rw [he] at this;obtain ⟨_,s2,w2,g2⟩:=this;exact ⟨s2,w2,trivial,g2⟩
       | ret=>rw [he] at this;obtain ⟨_,s2,w2,g2⟩:=this;exact ⟨s2,w2,trivial,g2⟩
      ·cases h
     ·cases h
    ·cases h
   ·cases h
  ·cases h
 ·cases h
theorem sat_const {A:Prop}:∀ {t:T} {env:List Val},t.sat CS (fun _ _=>A) (fun _ _=>A) env→A:=by
 intro t
 induction t with
 | fail=>intro env h;exact h.elim
 | hole i=>intro env h;exact h
 | jump j es=>intro env h;obtain ⟨vs,_,h⟩:=h;exact h
 | bind b t k ih=>intro env h;obtain ⟨v,_,_,h⟩:=h;exact ih h
 | ite c x y ihx ihy=>intro env h;obtain ⟨b,_,h1,h2⟩:=h;cases b with | true=>exact ihx (h1 rfl) | false=>exact ihy (h2 rfl)
 | letj ps k body ihk ihb =>
  intro env h
  refine ihb (T.sat_mono (t:=body) ?_ (fun _ _ h=>h) h)
  intro j vs hj
  cases j with
  | zero=>exact ihk hj.2
  | succ j=>exact hj
 | loop ps init body ih =>
  intro env h
  obtain ⟨n,vs,hv,h⟩:=h
  clear hv
  induction n generalizing vs with
  | zero=>exact h.elim
  | succ n ihn =>
   refine ih (T.sat_mono (t:=body) ?_ (fun _ _ h=>h) h.2)
   intro j us hj
   cases j with
   | zero=>exact ihn us hj
   | succ j=>exact hj
 | range ps init l body done ihb ihd =>
  intro env h
  obtain ⟨t,es,vs,_,_,h⟩:=h
  have key:∀ (es:List t.den) (i:Int) (vs:List Val),rangeN ps (fun again i x vs=>body.sat CS (consJ again fun _ _=>A) (fun _ _=>A) (env++vs++[⟨.int .i64,i⟩,⟨t,x⟩])) (fun vs=>done.sat CS (fun _ _=>A) (fun _ _=>A) (env++vs)) es i vs→A:=by
   intro es
   induction es with
   | nil=>intro i vs h;exact ihd h.2
   | cons x es ihn =>
    intro i vs h
    refine ihb (T.sat_mono (t:=body) ?_ (fun _ _ h=>h) h.2)
    intro j us hj
    cases j with
    | zero=>exact ihn _ us hj
    | succ j=>exact hj
  exact key es 0 vs h
end
structure PureF (P:Program) (g:Nat) (as:List Ty) (rty:Ty) (F:TupD as→Option rty.den):Prop where
 ok:∀ st r,F st=some r→PureOK P g ((toVs as st).map Val.d) (resD rty r)
 wf:∀ st r,EnvWf (toVs as st)→F st=some r→Val.wf ⟨rty,r⟩
theorem PureF.of {C:Cx} {n g:Nat} {as:List Ty} {rty:Ty} {t:T} {lg:Log} {F:CFun} {f:TupD as→Option rty.den} (hm:C.P.follows .mixedOrders=true) (hsp:SpOK C.P C.sp) (hF:CFok C.P F) (h:cmpF C n g as rty=some (t,lg))
  (hf:∀ st,t.run F rty.den (toVs as st) [fun vs=>ofVs [rty] vs]=f st):PureF C.P g as rty f:=by
 have key:∀ st r,f st=some r→EnvWf (toVs as st)→t.sat (CallV C.P) (consJ (fun us=>us=[⟨rty,r⟩]) noJ) (fun _ _=>False) (toVs as st):=by
  intro st r hr hw
  rw [← hf] at hr
  refine T.run_sound hF hw hr ?_
  intro j k vs hk hwv hkr
  cases j with
  | zero =>
   simp only [List.getElem?_cons_zero,Option.some.injEq] at hk
   subst hk
   exact ofVs_eq hkr
  | succ j=>simp at hk
 constructor
 ·intro st r hr
  exact cmpF_ok hm hsp h toVs_ty (key st r hr)
 ·intro st r hw hr
  refine sat_const (CS:=CallV C.P) (t:=t) (env:=toVs as st) (T.sat_mono ?_ ?_ (T.sat_ext callV_wf hw (key st r hr hw)))
  ·intro j vs ⟨h1,h2⟩
   cases j with
   | zero=>have h2:vs=[⟨rty,r⟩]:=h2;subst h2;exact h1 _ List.mem_cons_self
   | succ j=>exact h2.elim
  ·intro i e h;exact h.2.2.elim
def noC:CFun:=fun _ _ _=>none
def addC (g:Nat) (as:List Ty) (rty:Ty) (f:TupD as→Option rty.den) (F:CFun):CFun:=fun g' vs t=>if Nat.beq g' g=true then (match ofVs as vs with
 | some st=>castO (f st)
 | none=>none) else F g' vs t
theorem noC_ok {P:Program}:CFok P noC:=fun g vs t x hw h=>by cases h
theorem addC_ok {P:Program} {g:Nat} {as:List Ty} {rty:Ty} {f:TupD as→Option rty.den} {F:CFun} (hg:Nat.blt g 1000000=true) (h:PureF P g as rty f) (hF:CFok P F):CFok P (addC g as rty f F):=by
 intro g' vs t x hw hx
 unfold addC at hx
 split at hx
 ·rename_i e
  have e:=Nat.eq_of_beq_eq_true e
  subst e
  split at hx
  ·rename_i st hst
   have e:=ofVs_eq hst
   subst e
   obtain ⟨a,h1,h2⟩:=castO_eq hx
   rw [← h2]
   exact ⟨by rw [if_pos hg];exact h.ok st a h1,h.wf st a hw h1⟩
  ·cases hx
 ·exact hF g' vs t x hw hx
abbrev TabL:=List (Nat×List Ty×Ty)
def tabOf:TabL→Tab
 | [],_=>none
 | (g,s)::l,g'=>if Nat.beq g' g=true then some s else tabOf l g'
def eqK (t:Ty):t.den→t.den→Bool:=match eqT t with
 | some f=>f
 | none=>fun _ _=>false
section
variable {α:Type}
def idxO (l:List α) (i:Int):Option α:=if 0≤i then l[i.toNat]? else none
def aidxO {n:Nat} (f:Fin n→α) (i:Int):Option α:=if h:0≤i∧i.toNat<n then some (f ⟨i.toNat,h.2⟩) else none
def quoO (k:IntKind) (a b:Int):Option Int:=if b≠0 then some (k.wrap (a.tdiv b)) else none
def remO (a b:Int):Option Int:=if b≠0 then some (a.tmod b) else none
def shlO (k:IntKind) (a b:Int):Option Int:=if 0≤b then some (k.wrap (a * 2 ^ (min b.toNat k.bits))) else none
def shrO (k:IntKind) (a b:Int):Option Int:=if 0≤b then some (a.fdiv (2 ^ (min b.toNat k.bits))) else none
def appO (bytes:Nat) (a b:List α):Option (List α):=if (a.length+b.length) * bytes≤140737488355328 then some (a++b) else none
def slcO (l:List α) (lo hi:Int):Option (List α):=if 0≤lo∧lo≤hi∧hi≤l.length then some ((l.take hi.toNat).drop lo.toNat) else none
def asetO {n:Nat} (f:Fin n→α) (i:Int) (x:α):Option (Fin n→α):=if hi:0≤i∧i.toNat<n then some (fun j=>if j=⟨i.toNat,hi.2⟩ then x else f j) else none
end
abbrev HlL:=List (Nat×Hint)
def hlOf:HlL→Nat→Option Hint
 | [],_=>none
 | (c,h)::l,c'=>if Nat.beq c' c=true then some h else hlOf l c'
abbrev SpL:=List (Nat×Spec)
def spOf:SpL→FuncId→Option Spec
 | [],_=>none
 | (g,s)::l,g'=>if Nat.beq g' g=true then some s else spOf l g'
theorem spOK_nil {P:Program}:SpOK P (spOf []):=fun _ _ h=>by cases h
theorem spOK_cons {P:Program} {g:Nat} {x:Spec} {l:SpL} (h:SpecOK P g x) (hl:SpOK P (spOf l)):SpOK P (spOf ((g,x)::l)):=fun f y hf=>by
 simp only [spOf] at hf
 split at hf
 ·rename_i e
  have e:=Nat.eq_of_beq_eq_true e
  subst e
  cases hf;exact h
 ·exact hl f y hf
end Go.Tx
namespace Go.Tx
open Go Go.Ab
section
variable {σ ρ α β:Type}
@[simp] theorem turn_eq (s:σ):(turn s:Option (σ ⊕ ρ))=some (.inl s):=rfl
@[simp] theorem done_eq (r:Option ρ):(done r:Option (σ ⊕ ρ))=r.map .inr:=rfl
theorem letJ_eq (k:σ→Option ρ) (body:(σ→Option ρ)→Option ρ):letJ k body=body k:=rfl
theorem letV_eq {α β:Type} (a:α) (k:α→β):letV a k=k a:=rfl
theorem wrap_i64 {x:Int} (h0 : -9223372036854775808≤x) (h1:x≤9223372036854775807):IntKind.wrap .i64 x=x:=wrap_in (by simp [inR];omega)
theorem idxO_nat {l:List α} {k:Nat}:idxO l (k:Int)=l[k]?:=by simp [idxO]
end
end Go.Tx
namespace Go.Tx
open Go Go.Ab
def Def {α:Type} (x:Option α) (Q:α→Prop):Prop:=∃ r,x=some r∧Q r
section
variable {α β σ ρ:Type} {Q:α→Prop}
theorem Def.ret {a:α} (h:Q a):Def (some a) Q:=⟨a,rfl,h⟩
theorem Def.mono {x:Option α} {Q' : α→Prop} (h:Def x Q) (hq:∀ r,Q r→Q' r):Def x Q':=let ⟨r,a,b⟩:=h;⟨r,a,hq r b⟩
theorem Def.bind {x:Option β} {f:β→Option α} (h:Def x fun b=>Def (f b) Q):Def (Option.bind x f) Q:=by
 obtain ⟨b,rfl,h⟩:=h
 exact h
theorem Def.bind' {x:Option β} {f:β→Option α} {R:β→Prop} (hx:Def x R) (h:∀ b,R b→Def (f b) Q):Def (Option.bind x f) Q:=Def.bind (hx.mono h)
theorem Def.ite {c:Prop} [Decidable c] {x y:Option α} (h1:c→Def x Q) (h2 : ¬ c→Def y Q):Def (if c then x else y) Q:=by
 split
 ·exact h1 ‹_›
 ·exact h2 ‹_›
theorem Def.letV {a:β} {k:β→Option α} (h:Def (k a) Q):Def (letV a k) Q:=h
theorem Def.letJ {Q:ρ→Prop} (R:σ→Prop) {k:σ→Option ρ} {body:(σ→Option ρ)→Option ρ} (hk:∀ s,R s→Def (k s) Q) (hb:∀ j:σ→Option ρ,(∀ s,R s→Def (j s) Q)→Def (body j) Q):Def (letJ k body) Q:=hb k hk
theorem Def.done {r:Option ρ} {Q:σ ⊕ ρ→Prop} (h:Def r fun x=>Q (.inr x)):Def (done r) Q:=by
 obtain ⟨x,rfl,h⟩:=h
 exact ⟨_,rfl,h⟩
theorem Def.turn {s:σ} {Q:σ ⊕ ρ→Prop} (h:Q (.inl s)):Def (turn s) Q:=⟨_,rfl,h⟩
theorem Def.loop {body:σ→Option (σ ⊕ ρ)} {Q:ρ→Prop} (I:σ→Prop) (μ:σ→Nat) {s:σ} (h0:I s) (h:∀ s,I s→Def (body s) fun r=>match r with | .inl s'=>I s' ∧ μ s' < μ s | .inr r=>Q r):Def (whileO body s) Q:=by
 obtain ⟨n,hn⟩:∃ n,n=μ s:=⟨_,rfl⟩
 induction n using Nat.strongRecOn generalizing s with
 | _ n ih =>
  obtain ⟨r,h1,h2⟩:=h s h0
  rw [whileO_step,h1]
  cases r with
  | inl s'=>exact ih _ (hn ▸ h2.2) h2.1 rfl
  | inr r=>exact ⟨r,rfl,h2⟩
theorem Def.idx {l:List α} {i:Int} (h0:0≤i) (h1:i<l.length) (h:∀ v,l[i.toNat]? = some v→v∈l→Q v):Def (idxO l i) Q:=by
 have hlt:i.toNat<l.length:=by omega
 have e:=List.getElem?_eq_getElem hlt
 exact ⟨l[i.toNat],by rw [idxO,if_pos h0,e],h _ e (List.getElem_mem hlt)⟩
theorem Def.guard {b:Bool} {Q:Unit→Prop} (hb:b=true) (h:Q ()):Def (guardO b) Q:=⟨(),by rw [guardO,if_pos hb],h⟩
theorem Def.app {n:Nat} {a b:List α} {Q:List α→Prop} (hb:(a.length+b.length) * n≤140737488355328) (h:Q (a++b)):Def (appO n a b) Q:=⟨_,by rw [appO,if_pos hb],h⟩
theorem split_at {l:List α} {k:Nat} (h:k<l.length):l=l.take k++l[k]::l.drop (k+1):=by
 rw [List.getElem_cons_drop,List.take_append_drop]
theorem Def.for2 {l:List α} {A:β×Int→α→Option ((β×Int) ⊕ ρ)} {E:β×Int→Option ((β×Int) ⊕ ρ)} {Q:ρ→Prop} (I:List α→β→Prop) {a:β} (hl:l.length≤9223372036854775807) (h0:I [] a)
  (hb:∀ pre v post a,l=pre++v::post→I pre a→Def (A (a,(pre.length:Int)) v) fun r=>match r with | .inl s=>s.2=IntKind.wrap .i64 ((pre.length:Int)+1)∧I (pre++[v]) s.1 | .inr r=>Q r)
  (he:∀ a,I l a→Def (E (a,(l.length:Int))) fun r=>match r with | .inl _=>False | .inr r=>Q r) :
  Def (whileO (fun s=>if decide (s.2<((l.length:Nat):Int))=true then Option.bind (idxO l s.2) (A s) else E s) (a,(0:Int))) Q:=by
 refine Def.loop (fun s:β×Int=>0≤s.2∧s.2≤l.length∧I (l.take s.2.toNat) s.1) (fun s=>l.length - s.2.toNat) ⟨by simp,by simp,by simpa using h0⟩ (fun s hi=>?_)
 obtain ⟨a,i⟩:=s
 obtain ⟨h1,h2,h3⟩:=hi
 simp only at h1 h2 h3
 refine Def.ite (fun hc=>?_) (fun hc=>?_)
 ·have hlt:i<l.length:=by simpa using hc
  have hk:i.toNat<l.length:=by omega
  have hp:((l.take i.toNat).length:Int)=i:=by rw [List.length_take,Nat.min_eq_left (by omega)];omega
  refine Def.bind (Def.idx h1 hlt (fun v hv _=>?_))
  have hv' : l[i.toNat]=v:=by rw [List.getElem?_eq_getElem hk] at hv;exact Option.some.inj hv
  have h4:=hb (l.take i.toNat) v (l.drop (i.toNat+1)) a (by rw [← hv'];exact split_at hk) h3
  rw [hp] at h4
  refine h4.mono fun r hr=>?_
  cases r with
  | inr r=>exact hr
  | inl s' =>
   obtain ⟨e1,e2⟩:=hr
   rw [wrap_i64 (by omega) (by omega)] at e1
   have e3:s'.2.toNat=i.toNat+1:=by omega
   refine ⟨⟨by omega,by omega,?_⟩,by simp only;omega⟩
   rw [e3,List.take_add_one,hv]
   exact e2
 ·have hge : ¬ i<l.length:=by simpa using hc
  have e:i=l.length:=by omega
  subst e
  have h3' : I l a:=by simpa using h3
  refine (he a h3').mono fun r hr=>?_
  cases r with
  | inl s=>exact hr.elim
  | inr r=>exact hr
theorem Def.for1 {l:List α} {A:Int→α→Option (Int ⊕ ρ)} {E:Int→Option (Int ⊕ ρ)} {Q:ρ→Prop} (I:List α→Prop) (hl:l.length≤9223372036854775807) (h0:I [])
  (hb:∀ pre v post,l=pre++v::post→I pre→Def (A (pre.length:Int) v) fun r=>match r with | .inl s=>s=IntKind.wrap .i64 ((pre.length:Int)+1)∧I (pre++[v]) | .inr r=>Q r)
  (he:I l→Def (E (l.length:Int)) fun r=>match r with | .inl _=>False | .inr r=>Q r) :
  Def (whileO (fun s=>if decide (s<((l.length:Nat):Int))=true then Option.bind (idxO l s) (A s) else E s) (0:Int)) Q:=by
 refine Def.loop (fun i:Int=>0≤i∧i≤l.length∧I (l.take i.toNat)) (fun i:Int=>l.length - i.toNat) ⟨by simp,by simp,by simpa using h0⟩ (fun i hi=>?_)
 obtain ⟨h1,h2,h3⟩:=hi
 refine Def.ite (fun hc=>?_) (fun hc=>?_)
 ·have hlt:i<l.length:=by simpa using hc
  have hk:i.toNat<l.length:=by omega
  have hp:((l.take i.toNat).length:Int)=i:=by rw [List.length_take,Nat.min_eq_left (by omega)];omega
  refine Def.bind (Def.idx h1 hlt (fun v hv _=>?_))
  have hv' : l[i.toNat]=v:=by rw [List.getElem?_eq_getElem hk] at hv;exact Option.some.inj hv
  have h4:=hb (l.take i.toNat) v (l.drop (i.toNat+1)) (by rw [← hv'];exact split_at hk) h3
  rw [hp] at h4
  refine h4.mono fun r hr=>?_
  cases r with
  | inr r=>exact hr
  | inl s' =>
   obtain ⟨e1,e2⟩:=hr
   rw [wrap_i64 (by omega) (by omega)] at e1
   have e3:s'.toNat=i.toNat+1:=by omega
   refine ⟨⟨by omega,by omega,?_⟩,by omega⟩
   rw [e3,List.take_add_one,hv]
   exact e2
 ·have hge : ¬ i<l.length:=by simpa using hc
  have e:i=l.length:=by omega
  subst e
  have h3' : I l:=by simpa using h3
  refine (he h3').mono fun r hr=>?_
  cases r with
  | inl s=>exact hr.elim
  | inr r=>exact hr
theorem Def.bindI {c:Prop} [Decidable c] {x:Option β} {d:β} {f:β→Option α} (R:β→Prop) (hx:c→Def x R) (h:∀ b,(c→R b)→(¬ c→b=d)→Def (f b) Q):Def (Option.bind (if c then x else some d) f) Q:=by
 by_cases hc:c
 ·obtain ⟨b,e,hb⟩:=hx hc
  rw [if_pos hc,e]
  exact h b (fun _=>hb) (fun h=>absurd hc h)
 ·rw [if_neg hc]
  exact h d (fun h=>absurd h hc) (fun _=>rfl)
theorem Def.at {l pre post:List α} {v:α} (e:l=pre++v::post):Def (idxO l (pre.length:Int)) fun r=>r=v :=
 ⟨v,by rw [idxO_nat,e];simp,rfl⟩
theorem Def.prev {l pre post:List α} {v:α} (e:l=pre++v::post) (hl:l.length≤9223372036854775807) (h0:0<pre.length):Def (idxO l (IntKind.wrap .i64 ((pre.length:Int) - 1))) fun r=>pre.getLast? = some r:=by
 have hn:pre.length≤l.length:=by rw [e];simp
 rw [wrap_i64 (by omega) (by omega),show (pre.length:Int) - 1=((pre.length - 1:Nat):Int) by omega,idxO_nat,e,List.getElem?_append_left (by omega),← List.getLast?_eq_getElem?]
 cases h:pre.getLast? with
 | none=>rw [List.getLast?_eq_none_iff.1 h] at h0;simp at h0
 | some r=>exact ⟨r,rfl,rfl⟩
theorem Def.aidx {n:Nat} {f:Fin n→α} {i:Int} (h0:0≤i) (h1:i<n) (h:∀ k,Q (f k)):Def (aidxO f i) Q:=by
 have hi:0≤i∧i.toNat<n:=⟨h0,by omega⟩
 exact ⟨_,by rw [aidxO,dif_pos hi],h _⟩
theorem Def.times {n:Nat} {A:Int→Option (Int ⊕ ρ)} {E:Int→Option (Int ⊕ ρ)} {Q:ρ→Prop} (hn:n≤1000000)
  (hb:∀ i:Int,0≤i→i<n→Def (A i) fun r=>match r with | .inl s=>s=IntKind.wrap .i64 (i+1) | .inr r=>Q r)
  (he:Def (E (n:Int)) fun r=>match r with | .inl _=>False | .inr r=>Q r) :
  Def (whileO (fun s=>if decide (s<(n:Int))=true then A s else E s) (0:Int)) Q:=by
 refine Def.loop (fun i:Int=>0≤i∧i≤n) (fun i:Int=>n - i.toNat) ⟨by simp,by omega⟩ (fun i hi=>?_)
 obtain ⟨h1,h2⟩:=hi
 refine Def.ite (fun hc=>?_) (fun hc=>?_)
 ·have hlt:i<n:=by simpa using hc
  refine (hb i h1 hlt).mono fun r hr=>?_
  cases r with
  | inr r=>exact hr
  | inl s =>
   rw [wrap_i64 (by omega) (by omega)] at hr
   exact ⟨⟨by omega,by omega⟩,by omega⟩
 ·have e:i=n:=by simp at hc;omega
  subst e
  refine he.mono fun r hr=>?_
  cases r with
  | inl s=>exact hr.elim
  | inr r=>exact hr
theorem Def.forB {l:List α} (idx:σ→Int) {B E:σ→Option (σ ⊕ ρ)} {Q:ρ→Prop} (I:List α→σ→Prop) {s0:σ} (hl:l.length≤9223372036854775807) (h00:idx s0=0) (h0:I [] s0)
  (hb:∀ pre v post s,l=pre++v::post→idx s=(pre.length:Int)→I pre s→Def (B s) fun r=>match r with | .inl s'=>idx s' = IntKind.wrap .i64 ((pre.length:Int)+1)∧I (pre++[v]) s' | .inr r=>Q r)
  (he:∀ s,idx s=(l.length:Int)→I l s→Def (E s) fun r=>match r with | .inl _=>False | .inr r=>Q r) :
  Def (whileO (fun s=>if decide (idx s<((l.length:Nat):Int))=true then B s else E s) s0) Q:=by
 refine Def.loop (fun s:σ=>0≤idx s∧idx s≤l.length∧I (l.take (idx s).toNat) s) (fun s=>l.length - (idx s).toNat) ⟨by omega,by omega,by rw [h00];simpa using h0⟩ (fun s hi=>?_)
 obtain ⟨h1,h2,h3⟩:=hi
 refine Def.ite (fun hc=>?_) (fun hc=>?_)
 ·have hlt:idx s<l.length:=by simpa using hc
  have hk:(idx s).toNat<l.length:=by omega
  have hp:((l.take (idx s).toNat).length:Int)=idx s:=by rw [List.length_take,Nat.min_eq_left (by omega)];omega
  have h4:=hb (l.take (idx s).toNat) _ (l.drop ((idx s).toNat+1)) s (split_at hk) hp.symm h3
  rw [hp] at h4
  refine h4.mono fun r hr=>?_
  cases r with
  | inr r=>exact hr
  | inl s' =>
   obtain ⟨e1,e2⟩:=hr
   rw [wrap_i64 (by omega) (by omega)] at e1
   have e3:(idx s').toNat=(idx s).toNat+1:=by omega
   refine ⟨⟨by omega,by omega,?_⟩,by omega⟩
   rw [e3,List.take_add_one,List.getElem?_eq_getElem hk]
   exact e2
 ·have hge : ¬ idx s<l.length:=by simpa using hc
  have e:idx s=l.length:=by omega
  have h3' : I l s:=by rw [e] at h3;simpa using h3
  refine (he s e h3').mono fun r hr=>?_
  cases r with
  | inl s=>exact hr.elim
  | inr r=>exact hr
theorem Def.shr {k:IntKind} {a b:Int} {Q:Int→Prop} (hb:0≤b) (h:∀ r,Q r):Def (shrO k a b) Q:=⟨_,by rw [shrO,if_pos hb],h _⟩
theorem Def.shl {k:IntKind} {a b:Int} {Q:Int→Prop} (hb:0≤b) (h:∀ r,Q r):Def (shlO k a b) Q:=⟨_,by rw [shlO,if_pos hb],h _⟩
theorem Def.rem {a b:Int} {Q:Int→Prop} (hb:b≠0) (h:∀ r,Q r):Def (remO a b) Q:=⟨_,by rw [remO,if_pos hb],h _⟩
theorem Def.eq {x:Option α} {a:α} (h:Def x fun r=>r=a):x=some a:=by obtain ⟨r,h1,rfl⟩:=h;exact h1
theorem Def.of {x:Option α} {a:α} (h:x=some a) (hq:Q a):Def x Q:=⟨a,h,hq⟩
end
end Go.Tx
namespace Go.Tx
open Go Go.Ab
def T.eval (n:Nat) (F:CFun):T→(ρ:Type)→List Val→List (List Val→Option ρ)→Option ρ
 | .fail,ρ,env,js=>none
 | .hole _,ρ,env,js=>none
 | .jump j es,ρ,env,js=>match js[j]? with
  | some k=>match evs env es with
   | some vs=>k vs
   | none=>none
  | none=>none
 | .bind b t k,ρ,env,js=>match b with
  | .lets x=>match x.val env with
   | some v=>match castV t v with
    | some a=>letV a fun a=>k.eval n F ρ (env++[⟨t,a⟩]) js
    | none=>none
   | none=>none
  | b=>Option.bind (b.run F env t) fun a=>k.eval n F ρ (env++[⟨t,a⟩]) js
 | .ite c x y,ρ,env,js=>match c.val env with
  | some ⟨.bool,b⟩=>if b=true then x.eval n F ρ env js else y.eval n F ρ env js
  | _=>none
 | .letj ps k body,ρ,env,js=>letJ (σ:=TupD ps) (fun st=>k.eval n F ρ (env++toVs ps st) js) fun j=>body.eval n F ρ env ((fun vs=>match ofVs ps vs with | some st=>j st | none=>none)::js)
 | .loop ps init body,ρ,env,js=>match evs env init with
  | some vs=>match ofVs ps vs with
   | some st=>iterO (fun st=>body.eval n F (TupD ps ⊕ ρ) (env++toVs ps st) ((fun vs=>match ofVs ps vs with | some st=>turn st | none=>none)::js.map fun k vs=>done (k vs))) n st
   | none=>none
  | none=>none
 | .range _ _ _ _ _,ρ,env,js=>none
def CLe (F F' : CFun):Prop:=∀ g vs t x,F g vs t=some x→F' g vs t=some x
def JLe {ρ:Type} (js js' : List (List Val→Option ρ)):Prop:=∀ (i:Nat) (k:List Val→Option ρ),js[i]? = some k→∃ k' : List Val→Option ρ,js'[i]? = some k' ∧ ∀ (vs:List Val) (x:ρ),k vs=some x→k' vs=some x
theorem JLe.refl {ρ:Type} (js:List (List Val→Option ρ)):JLe js js:=fun i k h=>⟨k,h,fun _ _ h=>h⟩
theorem JLe.cons {ρ:Type} {js js' : List (List Val→Option ρ)} {k k' : List Val→Option ρ} (hk:∀ vs x,k vs=some x→k' vs=some x) (h:JLe js js'):JLe (k::js) (k' :: js'):=by
 intro i q hq
 cases i with
 | zero=>simp only [List.getElem?_cons_zero,Option.some.injEq] at hq;subst hq;exact ⟨k',by simp,hk⟩
 | succ i=>simpa using h i q (by simpa using hq)
theorem JLe.map {ρ σ:Type} {js js' : List (List Val→Option ρ)} (h:JLe js js'):JLe (js.map fun k vs=>done (σ:=σ) (k vs)) (js'.map fun k vs=>done (σ:=σ) (k vs)):=by
 intro i q hq
 rw [List.getElem?_map] at hq
 cases hj:js[i]? with
 | none=>rw [hj] at hq;cases hq
 | some k =>
  rw [hj] at hq
  simp only [Option.map_some,Option.some.injEq] at hq
  subst hq
  obtain ⟨k',h1,h2⟩:=h i k hj
  refine ⟨fun vs=>done (k' vs),by rw [List.getElem?_map,h1];rfl,fun vs x hx=>?_⟩
  simp only [done] at hx ⊢
  cases hk:k vs with
  | none=>rw [hk] at hx;cases hx
  | some a=>rw [h2 vs a hk];rw [hk] at hx;exact hx
theorem iterO_mono {σ ρ:Type} {b b' : σ→Option (σ ⊕ ρ)} (h:∀ s y,b s=some y→b' s=some y):∀ {n:Nat} {s:σ} {r:ρ},iterO b n s=some r→iterO b' n s=some r
 | 0,s,r,hr=>by cases hr
 | n+1,s,r,hr=>by
  rw [iterO] at hr ⊢
  split at hr
  ·cases hr
  ·rename_i s' e
   rw [h _ _ e];exact iterO_mono h hr
  ·rename_i r' e
   rw [h _ _ e];exact hr
section
variable {F F' : CFun}
theorem B.run_mono (hF:CLe F F') {env:List Val}:∀ {b:B} {t:Ty} {x:t.den},b.run F env t=some x→b.run F' env t=some x:=by
 intro b
 induction b with
 | ifb gs b u ih =>
  intro t x h
  simp only [B.run] at h ⊢
  split at h
  ·rename_i e
   subst e
   rw [if_pos rfl]
   split at h
   ·split at h
    ·rename_i hc;rw [if_pos hc];exact ih h
    ·rename_i hc;rw [if_neg hc];exact h
   ·cases h
  ·cases h
 | call g args =>
  intro t x h
  simp only [B.run] at h ⊢
  split at h
  ·exact hF _ _ _ _ h
  ·cases h
 | _=>intro t x h;exact h
theorem T.eval_run (n:Nat) (hF:CLe F F'):∀ {t:T} {ρ:Type} {env:List Val} {js js' : List (List Val→Option ρ)} {x:ρ},JLe js js' → t.eval n F ρ env js=some x→t.run F' ρ env js' = some x:=by
 intro t
 induction t with
 | fail=>intro ρ env js js' x hj h;cases h
 | hole i=>intro ρ env js js' x hj h;cases h
 | jump j es =>
  intro ρ env js js' x hj h
  simp only [T.eval,T.run] at h ⊢
  split at h
  ·rename_i k hk
   obtain ⟨k',h1,h2⟩:=hj _ _ hk
   rw [h1]
   simp only
   cases hv:evs env es with
   | none=>rw [hv] at h;cases h
   | some vs=>rw [hv] at h;exact h2 _ _ h
  ·cases h
 | bind b t k ih =>
  intro ρ env js js' x hj h
  cases b with
  | lets e =>
   simp only [T.eval,T.run,letV] at h ⊢
   cases hv:e.val env with
   | none=>rw [hv] at h;cases h
   | some v =>
    rw [hv] at h
    simp only at h ⊢
    cases hc:castV t v with
    | none=>rw [hc] at h;cases h
    | some a=>rw [hc] at h;exact ih hj h
  | _ =>
   simp only [T.eval,T.run] at h ⊢
   rw [Option.bind_eq_some_iff] at h ⊢
   obtain ⟨a,h1,h2⟩:=h
   exact ⟨a,B.run_mono hF h1,ih hj h2⟩
 | ite c a b iha ihb =>
  intro ρ env js js' x hj h
  simp only [T.eval,T.run] at h ⊢
  cases hv:c.val env with
  | none=>rw [hv] at h;cases h
  | some v =>
   obtain ⟨u,b⟩:=v
   rw [hv] at h
   cases u with
   | bool =>
    simp only at h ⊢
    split at h
    ·rename_i e;rw [if_pos e];exact iha hj h
    ·rename_i e;rw [if_neg e];exact ihb hj h
   | _=>cases h
 | letj ps k body ihk ihb =>
  intro ρ env js js' x hj h
  simp only [T.eval,T.run,letJ] at h ⊢
  refine ihb (hj.cons fun vs y hy=>?_) h
  cases hs:ofVs ps vs with
  | none=>rw [hs] at hy;cases hy
  | some st=>rw [hs] at hy;exact ihk hj hy
 | loop ps init body ih =>
  intro ρ env js js' x hj h
  simp only [T.eval,T.run] at h ⊢
  cases hv:evs env init with
  | none=>rw [hv] at h;cases h
  | some vs =>
   rw [hv] at h
   simp only at h ⊢
   cases hs:ofVs ps vs with
   | none=>rw [hs] at h;cases h
   | some st =>
   rw [hs] at h
   simp only at h ⊢
   ·refine whileO_iff.2 ⟨n,iterO_mono (fun s y hy=>?_) h⟩
    exact ih (hj.map.cons fun vs z hz=>hz) hy
 | range ps init l body d ihb ihd=>intro ρ env js js' x hj h;cases h
end
abbrev Trees:=List (Nat×List Ty×Ty×T)
def callL (n:Nat):Trees→CFun
 | []=>noC
 | (g,as,rty,t)::l=>addC g as rty (fun st=>t.eval n (callL n l) rty.den (toVs as st) [fun vs=>ofVs [rty] vs]) (callL n l)
theorem trees_nil (n:Nat):CLe (callL n []) noC:=fun _ _ _ _ h=>h
theorem trees_cons {n g:Nat} {as:List Ty} {rty:Ty} {t:T} {l:Trees} {F:CFun} {f:TupD as→Option rty.den} (h:CLe (callL n l) F) (hf:∀ st,t.run F rty.den (toVs as st) [fun vs=>ofVs [rty] vs]=f st):CLe (callL n ((g,as,rty,t)::l)) (addC g as rty f F):=by
 intro g' vs u x hx
 simp only [callL,addC] at hx ⊢
 split at hx
 ·rename_i e
  rw [if_pos e]
  split at hx
  ·rename_i st hst
   obtain ⟨a,h1,h2⟩:=castO_eq hx
   have h3:=T.eval_run n h (JLe.refl _) h1
   rw [hf] at h3
   rw [h3]
   have:castO (u:=u) (some a)=castO (t:=rty) (u:=u) (t.eval n (callL n l) rty.den (toVs as st) [fun vs=>ofVs [rty] vs]):=by rw [h1]
   rw [this];exact hx
  ·cases hx
 ·rename_i e
  rw [if_neg e]
  exact h _ _ _ _ hx
theorem ofVs_toVs:∀ {ts:List Ty} {x:TupD ts},ofVs ts (toVs ts x)=some x
 | [],_=>rfl
 | [t],x=>by simp [toVs,ofVs,castV]
 | t::u::ts,x=>by
  have h:castV t ⟨t,x.1⟩=some x.1:=by simp [castV]
  simp only [toVs,ofVs,h,ofVs_toVs (ts:=u::ts)]
theorem eval_fun {n g:Nat} {as:List Ty} {rty:Ty} {l:Trees} {F:CFun} {f:TupD as→Option rty.den} (h:CLe (callL n l) (addC g as rty f F)) (st:TupD as) {x:rty.den} (hx:callL n l g (toVs as st) rty=some x):f st=some x:=by
 have h1:=h _ _ _ _ hx
 unfold addC at h1
 rw [if_pos (Nat.beq_refl g)] at h1
 split at h1
 ·rename_i st' hst
  have e:=ofVs_eq hst
  obtain ⟨a,h2,h3⟩:=castO_eq h1
  cases h3
  rw [ofVs_toVs] at hst
  cases hst
  exact h2
 ·cases h1
end Go.Tx
namespace Go.Tx
open Go Go.Ab
def treeOf (P:Program) (tab:TabL) (hl:HlL) (sp:SpL) (g:Nat) (as:List Ty) (rty:Ty):T:=((cmpF ⟨P,tabOf tab,hlOf hl,spOf sp⟩ 3000 g as rty).map (·.1)).getD .fail
structure Lib (P:Program) where
 cf:CFun
 tab:TabL
 tr:Trees
 ok:CFok P cf
 le:CLe (callL 100 tr) cf
noncomputable def L0 (P:Program):Lib P:=⟨noC,[],[],noC_ok,trees_nil 100⟩
variable {P:Program}
theorem pure_of (L:Lib P) (hm:P.follows .mixedOrders=true) (g:Nat) (as:List Ty) (rty:Ty) (f:TupD as→Option rty.den) (hl:HlL) (sp:SpL) (hsp:SpOK P (spOf sp))
  (hf:∀ st,(treeOf P L.tab hl sp g as rty).run L.cf rty.den (toVs as st) [fun vs=>ofVs [rty] vs]=f st):PureF P g as rty f:=by
 unfold treeOf at hf
 cases h:cmpF ⟨P,tabOf L.tab,hlOf hl,spOf sp⟩ 3000 g as rty with
 | none =>
  rw [h] at hf
  have:∀ st,f st=none:=fun st=>by rw [← hf];rfl
  refine ⟨fun st r h=>?_,fun st r _ h=>?_⟩ <;> (rw [this] at h;cases h)
 | some q =>
  rw [h] at hf
  exact PureF.of (C:=⟨P,tabOf L.tab,hlOf hl,spOf sp⟩) (lg:=q.2) hm hsp L.ok h hf
noncomputable def Lib.add (L:Lib P) (hm:P.follows .mixedOrders=true) (g:Nat) (as:List Ty) (rty:Ty) (f:TupD as→Option rty.den) (hl:HlL) (sp:SpL) (hsp:SpOK P (spOf sp))
  (hf:∀ st,(treeOf P L.tab hl sp g as rty).run L.cf rty.den (toVs as st) [fun vs=>ofVs [rty] vs]=f st) (hg:Nat.blt g 1000000=true:=by rfl):Lib P :=
 ⟨addC g as rty f L.cf,(g,as,rty)::L.tab,(g,as,rty,treeOf P L.tab hl sp g as rty)::L.tr,addC_ok hg (pure_of L hm g as rty f hl sp hsp hf) L.ok,trees_cons L.le hf⟩
end Go.Tx
namespace Go.Tx
open Go Go.Ab
variable {P:Program}
theorem law_of (L:Lib P) (hm:P.follows .mixedOrders=true) (g:Nat) (as:List Ty) (rty:Ty) (f:TupD as→Option rty.den) (hl:HlL) (sp:SpL) (hsp:SpOK P (spOf sp))
  (hf:∀ st,(treeOf P L.tab hl sp g as rty).run L.cf rty.den (toVs as st) [fun vs=>ofVs [rty] vs]=f st)
  (hc:(cmpF ⟨P,tabOf L.tab,hlOf hl,spOf sp⟩ 3000 g as rty).isSome=true) {st:TupD as} {r:rty.den} (hr:EnvWf (toVs as st)→f st=some r):PureOK P g ((toVs as st).map Val.d) (resD rty r):=by
 unfold treeOf at hf
 cases h:cmpF ⟨P,tabOf L.tab,hlOf hl,spOf sp⟩ 3000 g as rty with
 | none=>rw [h] at hc;cases hc
 | some q =>
  rw [h] at hf
  have hf' : ∀ st,q.1.run L.cf rty.den (toVs as st) [fun vs=>ofVs [rty] vs]=f st:=hf
  refine cmpF_ok (C:=⟨P,tabOf L.tab,hlOf hl,spOf sp⟩) (lg:=q.2) hm hsp h toVs_ty (fun hw=>?_)
  have hr:=hr hw
  rw [← hf'] at hr
  refine T.run_sound L.ok hw hr ?_
  intro j k vs hk hwv hkr
  cases j with
  | zero =>
   simp only [List.getElem?_cons_zero,Option.some.injEq] at hk
   subst hk
   exact ofVs_eq hkr
  | succ j=>simp at hk
end Go.Tx
namespace Go.Ab
open Go Go.RowKit
inductive Sh where
 | bool
 | int (k:IntKind)
 | sl (ag:Bool) (e:Sh)
 | row (fs:List Sh)
 deriving Inhabited
mutual
def Sh.size:Sh→Nat
 | .row fs=>Sh.sizeL fs
 | _=>1
def Sh.sizeL:List Sh→Nat
 | []=>0
 | f::fs=>f.size+Sh.sizeL fs
end
mutual
def Conf:Sh→List D→Prop
 | .bool,ds=>∃ b,ds=[.v (.bool b)]
 | .int k,ds=>∃ n,ds=[.v (.int k n)]
 | .sl ag e,ds=>∃ xs:List D,ds=[.sl xs]∧∀ x∈xs,Conf e x.cells∧(ag=true→∃ cs,x = .agg cs)∧(ag=false→x.cells=[x])
 | .row fs,ds=>ConfL fs ds
def ConfL:List Sh→List D→Prop
 | [],ds=>ds=[]
 | f::fs,ds=>∃ a b,ds=a++b∧Conf f a∧ConfL fs b
end
def Sh.flat:Sh→Bool
 | .row _=>false
 | _=>true
def ofFs (F:TypeId→Option Sh) (P:Program):Nat→List Field→Option (List Sh)
 | _,[]=>some []
 | o,f::fs=>match F f.type with
  | some s=>if f.offset=o∧s.size=P.cellsOf f.type then (match ofFs F P (o+s.size) fs with | some ss=>some (s::ss) | none=>none) else none
  | none=>none
def Sh.ofT (P:Program):Nat→TypeId→Option Sh
 | 0,_=>none
 | d+1,t=>match P.underlying t with
  | some .bool=>some .bool
  | some (.int k)=>some (.int k)
  | some (.slice e)=>match Sh.ofT P d e with
   | some s=>if s.size=P.cellsOf e∧0<s.size then some (.sl (!s.flat) s) else none
   | none=>none
  | some (.struct fs)=>match ofFs (Sh.ofT P d) P 0 fs.toList with
   | some ss=>if Sh.sizeL ss=P.cellsOf t then some (.row ss) else none
   | none=>none
  | some (.array n e)=>match Sh.ofT P d e with
   | some s=>if s.size=P.cellsOf e∧n * s.size=P.cellsOf t then some (.row (List.replicate n s)) else none
   | none=>none
  | _=>none
def RepCells (w:World) (ds:List D) (cs:List Value):Prop:=∀ i (h:i<ds.length),RepD w (fun _ _=>False) ds[i] (cs.getD i undef)∧leaf (cs.getD i undef)=true
theorem getD_drop {cs:List Value} {o i:Nat}:(cs.drop o).getD i undef=cs.getD (o+i) undef:=by
 simp only [List.getD_eq_getElem?_getD,List.getElem?_drop]
theorem rep_append {w:World} {a b:List D} {cs:List Value} {o:Nat} (h1:RepCells w a (cs.drop o)) (h2:RepCells w b (cs.drop (o+a.length))):RepCells w (a++b) (cs.drop o):=by
 intro i hi
 by_cases h:i<a.length
 ·rw [List.getElem_append_left h];exact h1 i h
 ·have hi' : i - a.length<b.length:=by simp at hi;omega
  have:=h2 (i - a.length) hi'
  rw [List.getElem_append_right (by omega)]
  rw [getD_drop] at this ⊢
  rw [show o+a.length+(i - a.length)=o+i by omega] at this
  exact this
theorem cat {w:World} {cs:List Value}:∀ (ss:List Sh) (o:Nat),(∀ j s,ss[j]? = some s→∃ ds:List D,ds.length=s.size∧RepCells w ds (cs.drop (o+Sh.sizeL (ss.take j)))∧Conf s ds) →
  ∃ ds:List D,ds.length=Sh.sizeL ss∧RepCells w ds (cs.drop o)∧ConfL ss ds:=by
 intro ss
 induction ss with
 | nil=>intro o _;exact ⟨[],rfl,fun i h=>by simp at h,by simp [ConfL]⟩
 | cons s ss ih =>
  intro o h
  obtain ⟨a,a1,a2,a3⟩:=h 0 s rfl
  obtain ⟨b,b1,b2,b3⟩:=ih (o+s.size) (fun j s' hj=>by
   obtain ⟨ds,h1,h2,h3⟩:=h (j+1) s' (by simpa using hj)
   refine ⟨ds,h1,?_,h3⟩
   simp only [List.take_succ_cons,Sh.sizeL] at h2
   rw [← Nat.add_assoc] at h2;exact h2)
  simp only [List.take_zero,Sh.sizeL,Nat.add_zero] at a2
  exact ⟨a++b,by simp [Sh.sizeL,a1,b1],rep_append a2 (by rw [a1];exact b2),by rw [ConfL];exact ⟨a,b,rfl,a3,b3⟩⟩
theorem ofFs_get {F:TypeId→Option Sh} {P:Program}:∀ (fs:List Field) (o:Nat) (ss:List Sh),ofFs F P o fs=some ss→ss.length=fs.length∧∀ j s,ss[j]? = some s→∃ f,fs[j]? = some f∧F f.type=some s∧s.size=P.cellsOf f.type∧f.offset=o+Sh.sizeL (ss.take j):=by
 intro fs
 induction fs with
 | nil=>intro o ss h;simp [ofFs] at h;subst h;exact ⟨rfl,by simp⟩
 | cons f fs ih =>
  intro o ss h
  simp only [ofFs] at h
  split at h
  ·rename_i s hs
   split at h
   ·rename_i hc
    split at h
    ·rename_i ss' hss
     cases h
     obtain ⟨h1,h2⟩:=ih _ _ hss
     refine ⟨by simp [h1],fun j s' hj=>?_⟩
     cases j with
     | zero=>simp at hj;subst hj;exact ⟨f,rfl,hs,hc.2,by simp [Sh.sizeL,hc.1]⟩
     | succ j =>
      obtain ⟨f',k1,k2,k3,k4⟩:=h2 j s' (by simpa using hj)
      exact ⟨f',by simpa using k1,k2,k3,by rw [k4];simp [Sh.sizeL];omega⟩
    ·cases h
   ·cases h
  ·cases h
theorem sizeL_rep (n:Nat) (s:Sh):Sh.sizeL (List.replicate n s)=n * s.size:=by
 induction n with
 | zero=>simp [Sh.sizeL]
 | succ n ih=>simp [List.replicate_succ,Sh.sizeL,ih,Nat.succ_mul,Nat.add_comm]
theorem take_rep {w:World} {ds:List D} {cs:List Value} {n:Nat} (h:RepCells w ds (cs.take n)) (hl:ds.length=(cs.take n).length):RepCells w ds cs:=by
 intro i hi
 have:=h i hi
 have hin:i<n:=by
  rw [hl,List.length_take] at hi;omega
 rw [List.getD_eq_getElem?_getD,List.getElem?_take_of_lt hin,← List.getD_eq_getElem?_getD] at this
 exact this
theorem sizeL_take {ss:List Sh} {j:Nat} {s:Sh} (h:ss[j]? = some s):Sh.sizeL (ss.take j)+s.size≤Sh.sizeL ss:=by
 induction ss generalizing j with
 | nil=>simp at h
 | cons x ss ih =>
  cases j with
  | zero=>simp at h;subst h;simp [Sh.sizeL]
  | succ j=>have:=ih (j:=j) (by simpa using h);simp only [List.take_succ_cons,Sh.sizeL];omega
def pickD (ag:Bool) (ds:List D):D:=if ag then .agg ds else ds.headD default
theorem pickD_cells {s:Sh} {ds:List D} (h:Conf s ds):(pickD (!s.flat) ds).cells=ds:=by
 cases s with
 | bool=>simp only [Conf] at h;obtain ⟨b,rfl⟩:=h;rfl
 | int k=>simp only [Conf] at h;obtain ⟨b,rfl⟩:=h;rfl
 | sl ag e=>simp only [Conf] at h;obtain ⟨b,rfl,_⟩:=h;rfl
 | row fs=>rfl
theorem pickD_one {s:Sh} {ds:List D} (hs:s.flat=true) (h:Conf s ds):(pickD (!s.flat) ds).cells=[pickD (!s.flat) ds]:=by
 cases s with
 | bool=>simp only [Conf] at h;obtain ⟨b,rfl⟩:=h;rfl
 | int k=>simp only [Conf] at h;obtain ⟨b,rfl⟩:=h;rfl
 | sl ag e=>simp only [Conf] at h;obtain ⟨b,rfl,_⟩:=h;rfl
 | row fs=>simp [Sh.flat] at hs
theorem trod_rep {H:Type} {enc:TypeId×Value→H} {P:Program} {w:World} {spare:Nat→Bool} {held:Bool}:∀ (dep:Nat) (t:TypeId) (sh:Sh),Sh.ofT P dep t=some sh→∀ (fuel:Nat) (cs:List Value) (x:DataW H×List MemPlace),
  DataW.trod enc P w 0 spare held fuel t cs=some x→∃ ds:List D,ds.length=cs.length∧RepCells w ds cs∧Conf sh ds:=by
 intro dep
 induction dep with
 | zero=>intro t sh h;simp [Sh.ofT] at h
 | succ dep ih =>
  intro t sh h fuel cs x hx
  simp only [Sh.ofT] at h
  split at h
  ·rename_i hu
   cases h
   obtain ⟨b,rfl,_⟩:=DataW.trod_bool hu hx
   exact ⟨[.v (.bool b)],rfl,fun i hi=>by
    have:i=0:=by simpa using hi
    subst this;exact ⟨.v trivial,rfl⟩,by simp [Conf]⟩
  ·rename_i k hu
   cases h
   obtain ⟨b,rfl,_,h2⟩:=DataW.trod_int hu hx
   refine ⟨[.v (.int k b)],rfl,fun i hi=>?_,by simp [Conf]⟩
   have:i=0:=by simpa using hi
   subst this
   refine ⟨.v ?_,rfl⟩
   cases k <;> simp_all [okLeaf,inR,Lit.wf,IntKind.min,IntKind.max,IntKind.signed,IntKind.bits]
  ·rename_i e hu
   split at h
   ·rename_i s hs
    split at h
    ·rename_i hc
     cases h
     rcases DataW.trod_slice hu hx with ⟨rfl,_⟩ | ⟨a,len,cap,elems,rest,m,rfl,rfl,_,hb,hlc,hcm,hel,helems,_⟩
     ·refine ⟨[.sl []],rfl,fun i hi=>?_,by simp [Conf]⟩
      have:i=0:=by simpa using hi
      subst this
      exact ⟨RepD.sl (xs:=[]) (a:=none) (cap:=0) 0 0 0 (fun _ _=>undef) (by simp) (by simp) (by simp) (by simp) (by simp) (by simp),rfl⟩
     ·have hE:∀ i,∃ p:List Value×List D,i<len→w.cells? 0 (a.add (i * P.cellsOf e)) (P.cellsOf e)=some p.1∧p.2.length=p.1.length∧RepCells w p.2 p.1∧Conf s p.2:=by
       intro i
       by_cases hi:i<len
       ·have h1:=helems i hi
        rw [List.getElem?_eq_getElem (by omega)] at h1
        obtain ⟨ecs,h2,h3⟩:=Option.bind_eq_some_iff.1 h1
        obtain ⟨ds,k1,k2,k3⟩:=ih e s hs m ecs _ h3
        exact ⟨(ecs,ds),fun _=>⟨h2,k1,k2,k3⟩⟩
       ·exact ⟨([],[]),fun h=>absurd h hi⟩
      obtain ⟨E,hE⟩:=Classical.axiomOfChoice hE
      have hcell:∀ i,i<len→∀ j,j<P.cellsOf e→w.cell? ((a.add (i * P.cellsOf e)).add j)=some ((E i).1.getD j undef)∧(E i).1.length=P.cellsOf e:=by
       intro i hi j hj
       obtain ⟨_,h2,h3⟩:=World.cells?_some (hE i hi).1
       refine ⟨?_,h2⟩
       rw [h3 j hj,List.getD_eq_getElem?_getD,List.getElem?_eq_getElem (by omega)];rfl
      have hpos:0<P.cellsOf e:=by omega
      have hspot:0<len→a.spot=none:=by
       intro hl
       have h1:=(hcell 0 hl 0 hpos).1
       unfold World.cell? at h1
       split at h1
       ·split at h1
        ·cases h1
        ·rename_i hsp
         simp only [Addr.add] at hsp
         simpa using hsp
       ·cases h1
      refine ⟨[.sl ((List.range len).map fun i=>pickD (!s.flat) (E i).2)],rfl,fun i hi=>?_,?_⟩
      ·have:i=0:=by simpa using hi
       subst this
       refine ⟨?_,rfl⟩
       have key:∀ i (hi:i<((List.range len).map fun i=>pickD (!s.flat) (E i).2).length),(((List.range len).map fun i=>pickD (!s.flat) (E i).2)[i]).cells=(E i).2∧i<len:=by
        intro i hi
        have hi' : i<len:=by simpa using hi
        simp only [List.getElem_map,List.getElem_range]
        exact ⟨pickD_cells (hE i hi').2.2.2,hi'⟩
       have hlen:((List.range len).map fun i=>pickD (!s.flat) (E i).2).length=len:=by simp
       have:=RepD.sl (w:=w) (M:=fun _ _=>False) (xs:=(List.range len).map fun i=>pickD (!s.flat) (E i).2) (a:=some a) (cap:=cap) (P.cellsOf e) a.block a.off (fun i j=>(E i).1.getD j undef)
        (by rw [hlen];exact hlc) (by rw [hlen];have:maxLen=9223372036854775807:=rfl;omega)
        (fun hne=>by
         have hl:0<len:=by
          rcases Nat.eq_zero_or_pos len with h0 | h0
          ·exact absurd (by simp [h0]) hne
          ·exact h0
         have:=hspot hl
         cases a;simp_all)
        (fun i hi=>by
         obtain ⟨k1,k2⟩:=key i hi
         rw [k1,(hE i k2).2.1,(hcell i k2 0 hpos).2])
        (fun i hi j hj=>by
         obtain ⟨k1,k2⟩:=key i hi
         rw [k1] at hj
         have hj' : j<P.cellsOf e:=by rw [← (hcell i k2 0 hpos).2,← (hE i k2).2.1];exact hj
         have h1:=(hcell i k2 j hj').1
         refine ⟨?_,((hE i k2).2.2.1 j hj).2,fun h=>h.elim⟩
         have hsp:=hspot (by omega)
         have e1:(a.add (i * P.cellsOf e)).add j=⟨a.block,a.off+i * P.cellsOf e+j,none⟩:=by
          clear h1 hx helems hE hcell hspot key
          obtain ⟨bl,of,sp⟩:=a
          simp only at hsp
          subst hsp
          generalize i * P.cellsOf e=q
          simp only [Addr.add]
          by_cases q0:q=0 <;> by_cases j0:j=0 <;> simp [q0,j0] <;> omega
         rw [← e1];exact h1)
        (fun i hi j hj=>by
         obtain ⟨k1,k2⟩:=key i hi
         have hj2:j<(E i).2.length:=by rw [k1] at hj;exact hj
         have e2:((((List.range len).map fun i=>pickD (!s.flat) (E i).2)[i]).cells)[j]=(E i).2[j]:=by simp only [k1]
         rw [e2];exact ((hE i k2).2.2.1 j hj2).1)
       rw [hlen] at this
       exact this
      ·simp only [Conf]
       refine ⟨_,rfl,fun x hx=>?_⟩
       obtain ⟨i,hi,rfl⟩:=List.mem_map.1 hx
       have hi' : i<len:=by simpa using hi
       refine ⟨by rw [pickD_cells (hE i hi').2.2.2];exact (hE i hi').2.2.2,fun hag=>⟨(E i).2,by simp [pickD,hag]⟩,fun hag=>pickD_one (by simpa using hag) (hE i hi').2.2.2⟩
    ·cases h
   ·cases h
  ·rename_i fs hu
   split at h
   ·rename_i ss hss
    split at h
    ·rename_i hc
     cases h
     obtain ⟨xs,m,rfl,_,hl,hxl,hfs⟩:=DataW.trod_struct hu hx
     obtain ⟨h1,h2⟩:=ofFs_get _ _ _ hss
     obtain ⟨ds,k1,k2,k3⟩:=cat (w:=w) (cs:=cs) ss 0 (fun j s hj=>by
      obtain ⟨f,f1,f2,f3,f4⟩:=h2 j s hj
      have f1' : fs[j]? = some f:=by simpa using f1
      have h3:=hfs j f f1'
      have hjl:j<xs.length:=by rw [hxl];exact (Array.getElem?_eq_some_iff.1 f1').1
      rw [List.getElem?_eq_getElem hjl] at h3
      obtain ⟨ds,d1,d2,d3⟩:=ih f.type s f2 m _ _ h3
      have hlen:ds.length=s.size:=by
       rw [d1,f3,List.length_take,List.length_drop]
       have:f.offset+s.size≤cs.length:=by
        rw [hl,← hc,f4,Nat.zero_add]
        exact sizeL_take hj
       omega
      refine ⟨ds,hlen,?_,d3⟩
      rw [← f4]
      exact take_rep d2 d1)
     exact ⟨ds,by rw [k1,hl,hc],by simpa using k2,by simpa [Conf] using k3⟩
    ·cases h
   ·cases h
  ·rename_i n e hu
   split at h
   ·rename_i s hs
    split at h
    ·rename_i hc
     cases h
     obtain ⟨xs,m,rfl,_,hl,hxl,hfs⟩:=DataW.trod_array hu hx
     obtain ⟨ds,k1,k2,k3⟩:=cat (w:=w) (cs:=cs) (List.replicate n s) 0 (fun j s' hj=>by
      have hjn:j<n:=by
       have:=(List.getElem?_eq_some_iff.1 hj).1;simpa using this
      have hss:s' = s:=by
       rw [List.getElem?_replicate] at hj;simp [hjn] at hj;exact hj.symm
      subst hss
      have h3:=hfs j hjn
      rw [List.getElem?_eq_getElem (by omega)] at h3
      obtain ⟨ds,d1,d2,d3⟩:=ih e s' hs m _ _ h3
      have hoff:Sh.sizeL ((List.replicate n s').take j)=j * P.cellsOf e:=by
       rw [List.take_replicate,sizeL_rep,hc.1,Nat.min_eq_left (by omega)]
      have hlen:ds.length=s'.size:=by
       rw [d1,hc.1,List.length_take,List.length_drop]
       have:(j+1) * P.cellsOf e≤n * P.cellsOf e:=Nat.mul_le_mul_right _ hjn
       have h4:=hc.2
       rw [hc.1] at h4
       rw [Nat.succ_mul] at this
       omega
      refine ⟨ds,hlen,?_,d3⟩
      rw [Nat.zero_add,hoff]
      exact take_rep d2 d1)
     exact ⟨ds,by rw [k1,hl,sizeL_rep,hc.2],by simpa using k2,by simpa [Conf] using k3⟩
    ·cases h
   ·cases h
  ·cases h
theorem open_struct {H:Type} {enc:TypeId×Value→H} {P:Program} {w:World} {spare:Nat→Bool} {held:Bool} {r:Reach} {b0 dep:Nat} {t:TypeId} {fs:Array Field} {sh:Sh} {v:Value} {d:DataW H} {ps:List MemPlace}
  (hsh:Sh.ofT P dep t=some sh) (ht:P.underlying t=some (.struct fs)) (hval:Value.okWide P w r b0 t v) (hd:DataW.Trod enc P w 0 spare held t v d ps) :
  ∃ ds:List D,Conf sh ds∧RepD w (fun _ _=>False) (.agg ds) v:=by
 unfold Value.okWide at hval
 rw [ht] at hval
 obtain ⟨cs,rfl,_,_⟩:=hval
 obtain ⟨fuel,h⟩:=hd
 obtain ⟨ds,h1,h2,h3⟩:=trod_rep dep t sh hsh fuel _ _ h
 simp only [Value.cells] at h1 h2
 have e:∀ i,cs.getD i undef=cs.toList.getD i undef:=fun i=>by
  simp [Array.getD_eq_getD_getElem?,List.getD_eq_getElem?_getD]
 refine ⟨ds,h3,.agg (by simp [h1]) (fun i hi=>?_) (fun i hi=>?_)⟩
 ·rw [e];exact (h2 i hi).2
 ·rw [e];exact (h2 i hi).1
end Go.Ab
namespace Go.Tx
open Go Go.Ab Go.ChangeShapes Go.WideShapes Go.ChangeAt Go.RowKit
mutual
def fits:Sh→Ty→Bool
 | .bool,.bool=>true
 | .int k,.int q=>decide (k=q)
 | .sl ag e,.sl t=>fits e t&&(match t.ag with | some b=>decide (ag=b) | none=>false)
 | .row fs,.st a=>fitsP fs a
 | .row fs,.arr n t=>Nat.beq fs.length n&&fitsA fs t
 | _,_=>false
def fitsP:List Sh→Ty→Bool
 | [],.unit=>true
 | f::fs,.prod a b=>fits f a&&fitsP fs b
 | _,_=>false
def fitsA:List Sh→Ty→Bool
 | [],_=>true
 | f::fs,t=>fits f t&&fitsA fs t
end
theorem flat_list {t:Ty} (l:List t.den):(List.finRange l.length).flatMap (fun i=>enc t l[i])=l.flatMap (enc t):=by
 have:(List.finRange l.length).map (fun i=>l[i])=l:=by
  apply List.ext_getElem
  ·simp
  ·intro i h1 h2;simp
 conv=>rhs;rw [← this]
 rw [List.flatMap_map]
mutual
theorem conf_fits:∀ (sh:Sh) {t:Ty} {ds:List D},fits sh t=true→Conf sh ds→∃ a:t.den,ds=enc t a
 | .bool,t,ds,h,hc=>by
  cases t with
  | bool=>simp only [Conf] at hc;obtain ⟨b,rfl⟩:=hc;exact ⟨b,rfl⟩
  | _=>simp [fits] at h
 | .int k,t,ds,h,hc=>by
  cases t with
  | int q =>
   simp only [fits,decide_eq_true_eq] at h
   subst h
   simp only [Conf] at hc;obtain ⟨b,rfl⟩:=hc;exact ⟨b,rfl⟩
  | _=>simp [fits] at h
 | .sl ag e,t,ds,h,hc=>by
  cases t with
  | sl t =>
   simp only [fits,Bool.and_eq_true] at h
   simp only [Conf] at hc
   obtain ⟨xs,rfl,hx⟩:=hc
   have key:∀ xs:List D,(∀ x∈xs,Conf e x.cells∧(ag=true→∃ cs,x = .agg cs)∧(ag=false→x.cells=[x]))→∃ l:List t.den,xs=l.map fun a=>wrapD t (enc t a):=by
    intro xs
    induction xs with
    | nil=>intro _;exact ⟨[],rfl⟩
    | cons x xs ih =>
     intro hx
     obtain ⟨l,rfl⟩:=ih fun z hz=>hx z (List.mem_cons_of_mem _ hz)
     obtain ⟨h1,h2,h3⟩:=hx x List.mem_cons_self
     obtain ⟨a,ha⟩:=conf_fits e h.1 h1
     refine ⟨a::l,?_⟩
     simp only [List.map_cons,List.cons.injEq,and_true]
     have hag:=h.2
     unfold wrapD
     cases hg:t.ag with
     | none=>rw [hg] at hag;cases hag
     | some b =>
      rw [hg] at hag
      simp only [decide_eq_true_eq] at hag
      subst hag
      cases ag with
      | true =>
       obtain ⟨cs,rfl⟩:=h2 rfl
       simp only [← ha];rfl
      | false =>
       simp only [← ha,h3 rfl];rfl
   obtain ⟨l,rfl⟩:=key xs hx
   exact ⟨l,rfl⟩
  | _=>simp [fits] at h
 | .row fs,t,ds,h,hc=>by
  rw [Conf] at hc
  cases t with
  | st a =>
   simp only [fits] at h
   obtain ⟨x,hx⟩:=conf_fitsP fs (t:=a) h hc
   exact ⟨x,hx⟩
  | arr n t =>
   simp only [fits,Bool.and_eq_true] at h
   have e:=Nat.eq_of_beq_eq_true h.1
   obtain ⟨l,hl,rfl⟩:=conf_fitsA fs h.2 hc
   subst e
   subst_vars
   refine ⟨fun i=>l[i.1]'(by rw [hl];exact i.2),?_⟩
   rw [← flat_list l]
   simp only [enc]
   obtain ⟨k,hk⟩:∃ k,k=l.length:=⟨_,rfl⟩
   have:∀ (k:Nat) (hk:l.length=k),(List.finRange l.length).flatMap (fun i=>enc t l[i])=(List.finRange k).flatMap (fun i=>enc t (l[i.1]'(by rw [hk];exact i.2))):=by
    intro k hk;subst hk;rfl
   exact this _ hl
  | _=>simp [fits] at h
theorem conf_fitsP:∀ (fs:List Sh) {t:Ty} {ds:List D},fitsP fs t=true→ConfL fs ds→∃ a:t.den,ds=enc t a
 | [],t,ds,h,hc=>by
  cases t with
  | unit=>simp only [ConfL] at hc;subst hc;exact ⟨(),rfl⟩
  | _=>simp [fitsP] at h
 | f::fs,t,ds,h,hc=>by
  cases t with
  | prod a b =>
   simp only [fitsP,Bool.and_eq_true] at h
   rw [ConfL] at hc
   obtain ⟨u,v,rfl,h1,h2⟩:=hc
   obtain ⟨x,rfl⟩:=conf_fits f h.1 h1
   obtain ⟨y,rfl⟩:=conf_fitsP fs h.2 h2
   exact ⟨(x,y),rfl⟩
  | _=>simp [fitsP] at h
theorem conf_fitsA:∀ (fs:List Sh) {t:Ty} {ds:List D},fitsA fs t=true→ConfL fs ds→∃ l:List t.den,l.length=fs.length∧ds=l.flatMap (enc t)
 | [],t,ds,h,hc=>by simp only [ConfL] at hc;subst hc;exact ⟨[],rfl,rfl⟩
 | f::fs,t,ds,h,hc=>by
  simp only [fitsA,Bool.and_eq_true] at h
  rw [ConfL] at hc
  obtain ⟨u,v,rfl,h1,h2⟩:=hc
  obtain ⟨x,rfl⟩:=conf_fits f h.1 h1
  obtain ⟨l,hl,rfl⟩:=conf_fitsA fs h.2 h2
  exact ⟨x::l,by simp [hl],by simp⟩
end
section
variable {P:Program} {H:Type} {enc:TypeId×Value→H}
theorem post_of_below {f:Func} {s:ChangeSpec} {apart fresh handsOn again:Bool} {W W' : World} {args:Array Value} {v:Value} {ds gs:List (DataW H)} {before pa pv:List MemPlace}
  (hW:DataW.Whole enc P f.params.toList s.vars apart W args.toList ds gs before)
  (hres:∀ (b:Nat) (sp:Nat→Bool) (hd:Bool),DataW.TrodAll enc P W' b sp hd f.resultTypes.toList (v.resultList f.resultTypes.size) (s.fn H (ds++gs)).results [])
  (hargs:∀ sp:Nat→Bool,(∀ p∈before,sp p.block=true)→DataW.TrodAll enc P W' 0 sp true f.params.toList args.toList (s.fn H (ds++gs)).args pa)
  (hvars:∀ sp:Nat→Bool,(∀ p∈before,sp p.block=true)→DataW.TrodVars enc P W' sp s.vars (s.fn H (ds++gs)).vars pv)
  (hps:before=pa++pv) (hb:Below W.heap.size W W')
  (hok:∀ (j:Nat) (t:TypeId) (r:Value),f.resultTypes[j]? = some t→(v.resultList f.resultTypes.size)[j]? = some r→Value.okWide P W' .any 0 t r) :
  s.post enc P f apart fresh handsOn again W args v W':=by
 have hold:∀ p∈before,(fun b=>decide (b<W.heap.size)) p.block=true:=fun p hp=>by simpa using hW.lt p hp
 have hlt:∀ p∈before,p.block<W.heap.size:=fun p hp=>hW.lt p hp
 refine ⟨ds,gs,before,[],pa,pv,hW,hres _ _ _,hargs _ hold,hvars _ hold,World.keptBut_mono (fun p hp=>⟨hp,?_⟩) (hb.frame (· ∈ before)),fun _=>?_⟩
 ·rw [hps,List.mem_append] at hp
  exact Or.inr hp
 ·obtain ⟨_,_,_,_,_,hz,hn⟩:=hW
  refine ⟨hok,_,_,([]++pa)++pv,⟨[]++pa,pv,trodAll_append (hargs _ (fun _ _=>rfl)) (hres _ _ _),hvars _ (fun _ _=>rfl),rfl,?_,?_⟩,?_⟩
  ·intro b off hp
   have hp' : MemPlace.cell b off∈before:=by rw [hps];simpa using hp
   rw [hb.frozen (hlt _ hp')]
   exact hz b off hp'
  ·intro ha
   have:=hn ha
   rw [hps] at this
   simpa using this
  ·intro p hp _
   rw [hps]
   simpa using hp
theorem calls_of_pure {f:FuncId} {ds:List D} {b:Bool} {vs:Array Value} {w:World} (h:PureOK P f ds [.b b]) (hs:vs.size=ds.length)
  (hr:∀ i (hi:i<ds.length),RepD w (fun _ _=>False) ds[i] (vs.getD i undef)):Calls P f vs w fun e w'=>e = .returned (.bool b)∧Below w.heap.size w w':=by
 refine (callsIn_wide (n:=0)).1 (CallsIn.mono (h (fun _ _=>False) w 0 vs (fun _ _ hf=>hf.elim) hs hr) ?_)
 rintro e w' ⟨c,rfl,hb,hv⟩
 refine ⟨?_,hb⟩
 have h1:=hv ⟨fun _=>0,fun _=>(0,0,0),fun _=>0,fun _=>(none,0,0)⟩
 simp only [List.map_cons,List.map_nil,mkRes] at h1
 rw [h1.val.1]
theorem open_st {w:World} {spare:Nat→Bool} {held:Bool} {r:Reach} {b0 dep:Nat} {t:TypeId} {tt:Ty} {fs:Array Field} {sh:Sh} {v:Value} {d:DataW H} {ps:List MemPlace}
  (hsh:Sh.ofT P dep t=some sh) (hf:fits sh tt=true) (hag:tt.ag=some true) (ht:P.underlying t=some (.struct fs)) (hval:Value.okWide P w r b0 t v) (hd:DataW.Trod enc P w 0 spare held t v d ps) :
  ∃ a:tt.den,RepD w (fun _ _=>False) (encD tt a) v:=by
 obtain ⟨ds,h1,h2⟩:=open_struct hsh ht hval hd
 obtain ⟨a,rfl⟩:=conf_fits sh hf h1
 exact ⟨a,by unfold encD wrapD;rw [hag];exact h2⟩
end
end Go.Tx
