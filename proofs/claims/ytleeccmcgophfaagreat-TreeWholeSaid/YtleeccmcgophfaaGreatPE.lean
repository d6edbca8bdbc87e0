import Derived.Test.YtleeccmcgophfaaGreatPD
set_option linter.all false
namespace Go.Ab
open Go Go.RowKit
variable {P:Program} {w:World} {n:Nat} {Mo:Cells} {m:Mp} {s:Sa} {as:List Act} {p:Name}
mutual
def V.ylds (n:Name) : V → Bool
 | .yld m=>m == n
 | .fn _ c=>V.yldsL n c
 | .agg c=>V.yldsL n c
 | .tup c=>V.yldsL n c
 | _=>false
def V.yldsL (n:Name) : List V → Bool
 | []=>false
 | v :: vs=>v.ylds n || V.yldsL n vs
end
mutual
theorem V.ylds_lps (n:Name) : ∀ v:V,v.ylds n=false → n ∉ v.lps
 | .yld m=>by simp [V.ylds,V.lps]; exact fun h e=>h e.symm
 | .fn f c=>by simp only [V.ylds,V.lps]; exact V.yldsL_lps n c
 | .agg c=>by simp only [V.ylds,V.lps]; exact V.yldsL_lps n c
 | .tup c=>by simp only [V.ylds,V.lps]; exact V.yldsL_lps n c
 | .own .. | .d _ | .nil | .ref _ | .ptr .. | .mref _ | .mpc .. | .vsl .. | .vpt .. | .dead=>by simp [V.lps]
theorem V.yldsL_lps (n:Name) : ∀ vs:List V,V.yldsL n vs=false → n ∉ V.lpsL vs
 | []=>by simp [V.lpsL]
 | v :: vs=>by
  simp only [V.yldsL,V.lpsL,Bool.or_eq_false_iff,List.mem_append,not_or]
  exact fun ⟨a,b⟩=>⟨V.ylds_lps n v a,V.yldsL_lps n vs b⟩
end
def Sa.ylds (s:Sa) (n:Name) : Bool :=
 s.ts.any (fun x=>x.2.ylds n) || s.sv.any (fun f=>f.ts.any (fun x=>x.2.ylds n)) || s.bx.any (fun x=>x.2.ylds n)
theorem Sa.ylds_all {n:Name} (h:s.ylds n=false) : AllV (fun v=>n ∉ v.lps) s:=by
 simp only [Sa.ylds,Bool.or_eq_false_iff,List.any_eq_false] at h
 obtain ⟨⟨h1,h2⟩,h3⟩:=h
 refine ⟨fun t=>look_mem (fun v=>n ∉ v.lps) (by simp [V.lps]) _ (fun x hx=>V.ylds_lps n _ (Bool.eq_false_iff.2 (h1 x hx))) t,fun f hf t=>look_mem (fun v=>n ∉ v.lps) (by simp [V.lps]) _ (fun x hx=>?_) t,
  fun k c hk=>V.ylds_lps n c (Bool.eq_false_iff.2 (h3 _ (lookN_mem hk)))⟩
 have h4:=h2 f hf
 rw [Bool.not_eq_true,List.any_eq_false] at h4
 exact V.ylds_lps n _ (Bool.eq_false_iff.2 (h4 x hx))
def Mp.setLp (m:Mp) (l:Name) (N:Nat) : Mp:={ m with lp:=fun x=>if x=l then N else m.lp x }
theorem RepV.newLp {w' : World} {M:Cells} {v:V} {c:Value} {l:Name} {N:Nat} (h:RepV w M m v c) (hy:l ∉ v.lps) (hbl:Below w.heap.size w w') : RepV w' M (m.setLp l N) v c :=
 h.mono (stab_below M hbl) (fun _ _=>rfl) (fun _ _ _ _ hs=>spare_heap hs rfl (fun _ _=>heap_below hbl)) (fun k hk=>by
  have:k ≠ l:=fun e=>hy (e ▸ hk)
  simp [Mp.setLp,this])
theorem Rel.newLp {w' : World} {l:Name} {N:Nat} (h:Rel Mo m s as w) (hy:AllV (fun v=>l ∉ v.lps) s) (hn:lookN l s.lp=none) (hbl:Below w.heap.size w w') : Rel Mo (m.setLp l N) s as w':=by
 have hall:∀ x:V,l ∉ x.lps → (∀ n ∈ x.bxs,m.bx n=m.bx n) ∧ (∀ i ∈ x.ows,∀ sz y,Spare w m i sz y → Spare w' (m.setLp l N) i sz y) ∧ (∀ k ∈ x.lps,(m.setLp l N).lp k=m.lp k):=fun x hx =>
  ⟨fun _ _=>rfl,fun _ _ _ _ hs=>spare_heap hs rfl (fun _ _=>heap_below hbl),fun k hk=>by
   have:k ≠ l:=fun e=>hx (e ▸ hk)
   simp [Mp.setLp,this]⟩
 refine h.remap (s':=s) (m':=m.setLp l N) rfl rfl rfl rfl rfl (stab_below _ hbl) ⟨fun t=>hall _ (hy.ts t),fun g hg t=>hall _ (hy.sv g hg t),fun n d hd=>hall _ (hy.bx n d hd)⟩
  hbl.size (fun b o ho _=>heap_below hbl ho) (fun k q hk=>?_) ?_ h.inj ?_ h.owx h.owb h.owm (fun k d hk=>⟨(h.vec k d hk).1,(h.vec k d hk).2.mono (stab_below _ hbl) rfl rfl (fun _ o v _ _ hv=>by rw [hbl.cell (p:=⟨_,o,none⟩) (World.block_lt_of_cell? w _ hv)]; exact hv) (fun b c T hc=>⟨c,heap_below hbl hc,rfl⟩)⟩)
 ·have:k ≠ l:=fun e=>by rw [e,hn] at hk; cases hk
  simp [Mp.setLp,this]
 ·intro nm d hd
  obtain ⟨cs,T,hb⟩:=h.box nm d hd
  exact ⟨cs,T,hb.heap.mono (fun _ ho _ _=>heap_below hbl ho),hb.size,hb.leafs,fun i hi=>(hb.rep i hi).newLp (fun hx=>hy.bx nm d hd (lps_cells d i hi l hx)) hbl⟩
 ·intro i hi hne
  obtain ⟨c,T,h1,h2⟩:=h.oww i hi hne
  exact ⟨c,T,heap_below hbl h1,h2⟩
theorem Rel.marks_lt (h:Rel Mo m s as w) : ∀ d ∈ marks as,∃ r,d={ target:=.collected r,args:=#[] } ∧ r < w.heap.size:=by
 intro d hd
 obtain ⟨a,ha,hd⟩:=List.mem_flatMap.1 hd
 obtain ⟨i,hi,rfl⟩:=List.getElem_of_mem ha
 obtain ⟨r,e,hr⟩:=(h.fr i (by rw [List.length_cons,← h.len]; exact hi) hi).def_ d hd
 exact ⟨r,e,(Array.getElem?_eq_some_iff.1 hr).1⟩
theorem Rel.addMark {a:Act} {r:Nat} (h:Rel Mo m s (a :: as) w) (hr:w.heap[r]? = some (.deferred (some []))) (hnew:∀ d ∈ marks (a :: as),d ≠ { target:=.collected r,args:=#[] }) :
  Rel Mo m s ({ a with defers:={ target:=.collected r,args:=#[] } :: a.defers } :: as) w:=by
 refine ⟨by simpa using h.len,?_,h.box,h.inj,h.oww,h.owx,h.owb,?_,by simpa using h.dep,h.lpi,h.mo,?_,h.owm,h.vec⟩
 ·intro i hi hi'
  cases i with
  | zero =>
   have h0:=h.fr 0 (by simp) (by simp)
   refine ⟨h0.size,h0.ts,fun d hd=>?_⟩
   rcases List.mem_cons.1 hd with rfl | hd
   ·exact ⟨r,rfl,hr⟩
   ·exact h0.def_ d hd
  | succ i=>exact h.fr (i + 1) hi (by simpa using hi')
 ·intro l q hl
  obtain ⟨rc,b,hx⟩:=h.lps l q hl
  refine ⟨rc,b,⟨hx.heap,hx.ps,hx.assign,hx.body,?_,hx.tmps,hx.stat⟩⟩
  have hown:=hx.own
  have hd:=h.dep l q hl
  simp only [List.length_cons] at hd
  rw [List.reverse_cons,List.getElem?_append_left (by simp; omega)] at hown ⊢
  exact hown
 ·have:=h.mks
  simp only [marks,List.flatMap_cons,List.cons_append,List.nodup_cons] at this ⊢
  exact ⟨fun hm=>hnew _ (by simpa [marks] using hm) rfl,this⟩
theorem Rel.addLoop {l:Name} {q:Lp} {r:Loop} {a:Act} (h:Rel Mo m s as w) (hn:lookN l s.lp=none) (hx:LpOK w m l q as r a) (hd:q.depth + 1 < as.length) (hf:∀ l' p',lookN l' s.lp=some p' → m.lp l' ≠ m.lp l) :
  Rel Mo m { s with lp:=(l,q) :: s.lp } as w:=by
 refine ⟨h.len,h.fr,h.box,h.inj,h.oww,h.owx,h.owb,?_,?_,?_,h.mo,h.mks,h.owm,h.vec⟩
 ·intro nm x hl
  simp only [lookN] at hl
  split at hl
  ·rename_i e; cases hl; subst e; exact ⟨r,a,hx⟩
  ·exact h.lps nm x hl
 ·intro nm x hl
  simp only [lookN] at hl
  split at hl
  ·cases hl; exact hd
  ·exact h.dep nm x hl
 ·intro n1 x1 n2 x2 h1 h2 e
  simp only [lookN] at h1 h2
  split at h1
  ·rename_i e1
   split at h2
   ·rename_i e2; rw [← e1,← e2]
   ·subst e1; exact absurd e.symm (hf n2 x2 h2)
  ·split at h2
   ·rename_i e2; subst e2; exact absurd e (hf n1 x1 h1)
   ·exact h.lpi n1 x1 n2 x2 h1 h2 e
theorem Rel.dropLoop {l:Name} {q:Lp} {tl:List (Name × Lp)} {r r' : Loop} (h:Rel Mo m s as w) (hs:s.lp=(l,q) :: tl) (hn:lookN l tl=none) (hr:w.heap[m.lp l]? = some (.loop r)) :
  Rel Mo m { s with lp:=tl } as (w.putObj (m.lp l) (.loop r')):=by
 have hne:∀ (b:Nat) (x:Obj),w.heap[b]? = some x → (∀ y,x ≠ .loop y) → (w.putObj (m.lp l) (.loop r')).heap[b]? = some x:=by
  intro b x hx hnx
  have:b ≠ m.lp l:=fun e=>by subst e; rw [hr] at hx; cases hx; exact hnx _ rfl
  rw [World.putObj_heap_other this]; exact hx
 have hstab:Stab w (Tot Mo s.bx s.ow m) (w.putObj (m.lp l) (.loop r')) (Tot Mo s.bx s.ow m):=by
  intro b j c hc hm
  refine ⟨?_,hm⟩
  have hb:b ≠ m.lp l:=fun e=>by subst e; simp [World.cell?,hr] at hc
  rw [World.cell?_of_block (w:=w) (World.putObj_heap_other hb)]; exact hc
 have hsp:∀ i sz v,Spare w m i sz v → Spare (w.putObj (m.lp l) (.loop r')) m i sz v:=by
  intro i sz v hs
  unfold Spare at hs ⊢
  split at hs
  ·exact hs
  ·rcases hs with hs | ⟨h1,h2,h3,c,T,h4,h5⟩
   ·exact .inl hs
   ·exact .inr ⟨h1,h2,h3,c,T,hne _ _ h4 (by simp),h5⟩
  ·exact hs.elim
 have hrep:∀ v c,RepV w (Tot Mo s.bx s.ow m) m v c → RepV (w.putObj (m.lp l) (.loop r')) (Tot Mo s.bx s.ow m) m v c:=fun v c hv=>hv.mono hstab (fun _ _=>rfl) (fun i _ sz v hs=>hsp i sz v hs) (fun _ _=>rfl)
 have hlook:∀ nm x,lookN nm tl=some x → nm ≠ l ∧ lookN nm s.lp=some x:=by
  intro nm x hx
  have:nm ≠ l:=fun e=>by rw [e,hn] at hx; cases hx
  exact ⟨this,by rw [hs]; simp only [lookN]; rw [if_neg (Ne.symm this)]; exact hx⟩
 have hll:lookN l s.lp=some q:=by rw [hs]; simp [lookN]
 refine ⟨h.len,?_,?_,h.inj,?_,h.owx,h.owb,?_,?_,?_,fun b j hm=>by rw [World.putObj_size]; exact h.mo b j hm,h.mks,h.owm,fun k d hk=>⟨(h.vec k d hk).1,(h.vec k d hk).2.putObj hr (by simp) hstab⟩⟩
 ·intro i hi hi'
  have h0:=h.fr i hi hi'
  refine ⟨h0.size,fun t=>hrep _ _ (h0.ts t),fun d hd=>?_⟩
  obtain ⟨x,e,hx⟩:=h0.def_ d hd
  exact ⟨x,e,hne _ _ hx (by simp)⟩
 ·intro nm c hn
  obtain ⟨cs,T,hb⟩:=h.box nm c hn
  exact ⟨cs,T,hb.heap.mono (fun o ho _ h2=>hne _ _ ho h2),hb.size,hb.leafs,fun i hi=>hrep _ _ (hb.rep i hi)⟩
 ·intro i hi hn
  obtain ⟨c,T,h1,h2⟩:=h.oww i hi hn
  exact ⟨c,T,hne _ _ h1 (by simp),h2⟩
 ·intro nm x hx
  obtain ⟨h1,h2⟩:=hlook nm x hx
  obtain ⟨rc,b,hy⟩:=h.lps nm x h2
  refine ⟨rc,b,⟨?_,hy.ps,hy.assign,hy.body,hy.own,hy.tmps,hy.stat⟩⟩
  have:m.lp nm ≠ m.lp l:=fun e=>h1 (h.lpi nm x l q h2 hll e)
  rw [World.putObj_heap_other this]; exact hy.heap
 ·intro nm x hx
  exact h.dep nm x (hlook nm x hx).2
 ·intro n1 x1 n2 x2 h1 h2 e
  exact h.lpi n1 x1 n2 x2 (hlook n1 x1 h1).2 (hlook n2 x2 h2).2 e
theorem Rel.setRd (h:Rel Mo m s as w) (r:Option Name) : Rel Mo m { s with rd:=r } as w:=by
 refine ⟨h.len,?_,h.box,h.inj,h.oww,h.owx,h.owb,h.lps,h.dep,h.lpi,h.mo,h.mks,h.owm,h.vec⟩
 intro i hi hi'
 cases i with
 | zero=>exact ⟨(h.fr 0 (by simp) hi').size,(h.fr 0 (by simp) hi').ts,(h.fr 0 (by simp) hi').def_⟩
 | succ i=>exact h.fr (i + 1) hi hi'
def Sa.loopIn (s:Sa) (l:Name) (nt:Nat) (args:List V) (q:Lp) : Sa:={ rd:=none,n:=nt,ts:=argTs 0 args,sv:={ rd:=some l,n:=s.n,ts:=s.ts } :: s.sv,bx:=s.bx,lp:=(l,q) :: s.lp,ow:=s.ow,vc:=s.vc }
def Sa.loopOut (s:Sa) : Sa:=match s.sv with
 | f :: fs=>{ rd:=none,n:=f.n,ts:=f.ts,sv:=fs,bx:=s.bx,lp:=s.lp.tail,ow:=s.ow,vc:=s.vc }
 | []=>s
def LeftLoop (P:Program) (p:Name) (rs:List ResultVar) (l:Name) (s0:Sa) (Q:Ex → Sa → Prop) (e:Ex) (s:Sa) : Prop :=
 (match e with | .exit _=>False | _=>True) ∧ s.sv.length=s0.sv.length + 1 ∧ lpD s.lp=(l,s0.sv.length) :: lpD s0.lp ∧ resK P s rs fun _=>match s.lp with
  | (_,q) :: _=>match q.pending with
   | none=>Q .norm s.loopOut
   | some none=>False
   | some (some c)=>ev P (sems P) p c s.loopOut Q
  | []=>False
theorem Rel.loopIn {a:Act} {sv:List Act} {w1:World} {l:Name} {args:List V} {vs:Array Value} {nt:Nat} {ps:Array Tmp} {assign body:Code} {r:Loop} {B:Nat} (h:Rel Mo m s (a :: sv) w) (hy:AllV (fun v=>l ∉ v.lps) s) (hn:lookN l s.lp=none)
  (hbl:Below w.heap.size w w1) (hB:w1.heap[B]? = some (.deferred (some []))) (hBs:w.heap.size ≤ B) {N:Nat} (hN:w1.heap[N]? = some (.loop r)) (hNs:w.heap.size ≤ N)
  (hr:r.params=ps ∧ r.assign=assign ∧ r.body=body ∧ r.tmps=a.tmps ∧ r.state = .ready ∧ r.pending=none)
  (ha:ArgsOK w1 (Tot Mo s.bx s.ow m) (m.setLp l N) args vs) (hle:args.length ≤ nt) :
  Rel Mo (m.setLp l N) (s.loopIn l nt args ⟨s.sv.length,ps,assign,body,none⟩)
   ({ tmps:=vs ++ Array.replicate (nt - vs.size) undef,defers:=[] } :: { a with defers:={ target:=.collected B,args:=#[] } :: a.defers } :: sv) w1:=by
 have h1:=(h.newLp (N:=N) hy hn hbl).addMark hB (fun d hd=>by
  obtain ⟨r,e,hr⟩:=h.marks_lt d hd
  intro e2
  rw [e] at e2
  have:r=B:=by cases e2; rfl
  omega)
 have h2:=(h1.setRd (some l)).push (args:=args) (vs:=vs) nt ha hle
 refine h2.addLoop (l:=l) (q:=⟨s.sv.length,ps,assign,body,none⟩) (r:=r) (a:={ a with defers:={ target:=.collected B,args:=#[] } :: a.defers }) hn ?_ ?_ ?_
 ·refine ⟨by simpa [Mp.setLp] using hN,hr.1,hr.2.1,hr.2.2.1,?_,hr.2.2.2.1,hr.2.2.2.2⟩
  have hl:=h.len
  simp only [List.length_cons,Nat.add_right_cancel_iff] at hl
  have e:∀ (x y:Act),(x :: y :: sv).reverse[s.sv.length]? = some y:=fun x y=>by
   rw [← hl]
   simp
  exact e _ _
 ·have hl:=h.len
  simp only [List.length_cons] at hl ⊢
  omega
 ·intro l' p' hl
  have:l' ≠ l:=fun e=>by rw [e] at hl; exact absurd hl (by simp [Sa.push,hn])
  obtain ⟨rc,b,hx⟩:=h.lps l' p' hl
  have:=(Array.getElem?_eq_some_iff.1 hx.heap).1
  simp only [Mp.setLp,if_true]
  rw [if_neg (by assumption)]
  omega
theorem lpD_none:∀ {l l' : List (Name × Lp)},lpD l=lpD l' → ∀ {nm:Name},lookN nm l=none → lookN nm l' = none:=by
 intro l l' e nm h
 cases h' : lookN nm l' with
 | none=>rfl
 | some q =>
  obtain ⟨q',h1,_⟩:=lpD_look e.symm h'
  rw [h] at h1; cases h1
end Go.Ab
namespace Go.Ab
open Go Go.RowKit
set_option linter.unusedVariables false
variable {P:Program} {a:Act} {w:World} {n:Nat} {Mo:Cells} {m:Mp} {s:Sa} {p:Name} {k:Sa → Prop} {Q:Exit → Act → World → Prop} {sv:List Act} {ops:Array Oper}
structure Eqv (s s' : Sa) : Prop where
 rd:s.rd=s'.rd
 n:s.n=s'.n
 sv:s.sv=s'.sv
 bx:∀ nm,lookN nm s.bx=lookN nm s'.bx
 lp:s.lp=s'.lp
 ow:s.ow=s'.ow
 ts:∀ t,lkT t s.ts=lkT t s'.ts
 vc:s.vc=s'.vc
theorem Eqv.refl (s:Sa) : Eqv s s:=⟨rfl,rfl,rfl,fun _=>rfl,rfl,rfl,fun _=>rfl,rfl⟩
theorem Eqv.trans {s s' s'' : Sa} (h:Eqv s s') (h' : Eqv s' s'') : Eqv s s'':=⟨h.rd.trans h'.rd,h.n.trans h'.n,h.sv.trans h'.sv,fun nm=>(h.bx nm).trans (h'.bx nm),h.lp.trans h'.lp,h.ow.trans h'.ow,fun t=>(h.ts t).trans (h'.ts t),h.vc.trans h'.vc⟩
theorem Eqv.symm {s s' : Sa} (h:Eqv s s') : Eqv s' s:=⟨h.rd.symm,h.n.symm,h.sv.symm,fun nm=>(h.bx nm).symm,h.lp.symm,h.ow.symm,fun t=>(h.ts t).symm,h.vc.symm⟩
theorem Eqv.wk {s s' : Sa} (h:Eqv s s') : Wk s s':=Wk.of h.rd.symm h.n.symm h.lp.symm (fun t=>.inl (h.ts t).symm) h.sv.symm (fun nm c hc=>by rw [h.bx]; exact hc) (fun i hi=>by rw [h.ow]; exact hi) (fun n c hn=>⟨by rw [h.vc]; exact hn,fun hi=>by rw [← h.ow]; exact hi⟩)
theorem Eqv.put {s s' : Sa} (h:Eqv s s') (d:Option Tmp) (v:V) : Eqv (s.put d v) (s'.put d v):=by
 cases d with
 | none=>exact h
 | some d=>exact ⟨h.rd,h.n,h.sv,h.bx,h.lp,h.ow,fun t=>by simp only [Sa.put,lkT_setT',h.ts t],h.vc⟩
theorem Like.eqv {s s' : Sa} (h:Like s s') : Eqv s s':=⟨h.rd,h.n,h.sv,fun nm=>by rw [h.bx],h.lp,h.ow,h.ts,h.vc⟩
structure Eff where
 i:Nat
 v:V
 w:List (Name × V)
def addN (n:Name) (c:V) (l:List (Name × V)) : List (Name × V):=(n,c) :: l
def addAll (ws:List (Name × V)) (l:List (Name × V)) : List (Name × V):=ws.foldl (fun l x=>addN x.1 x.2 l) l
def appE (ops:Array Oper) (s:Sa) (e:Eff) : Sa:=({ s with bx:=addAll e.w s.bx }:Sa).put (dstOf ops e.i) e.v
def appAll (ops:Array Oper) (s:Sa) (l:List Eff) : Sa:=l.foldl (appE ops) s
theorem appAll_append (l l' : List Eff) : appAll ops s (l ++ l')=appAll ops (appAll ops s l) l':=by simp [appAll]
theorem appE_fields (e:Eff) : (appE ops s e).rd=s.rd ∧ (appE ops s e).n=s.n ∧ (appE ops s e).sv=s.sv ∧ (appE ops s e).lp=s.lp ∧ (appE ops s e).ow=s.ow ∧ (appE ops s e).bx=addAll e.w s.bx:=by
 unfold appE
 cases dstOf ops e.i <;> exact ⟨rfl,rfl,rfl,rfl,rfl,rfl⟩
theorem appAll_fields (l:List Eff) : (appAll ops s l).rd=s.rd ∧ (appAll ops s l).n=s.n ∧ (appAll ops s l).sv=s.sv ∧ (appAll ops s l).lp=s.lp ∧ (appAll ops s l).ow=s.ow:=by
 induction l generalizing s with
 | nil=>exact ⟨rfl,rfl,rfl,rfl,rfl⟩
 | cons e l ih =>
  obtain ⟨h1,h2,h3,h4,h5⟩:=ih (s:=appE ops s e)
  obtain ⟨g1,g2,g3,g4,g5,_⟩:=appE_fields (ops:=ops) (s:=s) e
  exact ⟨h1.trans g1,h2.trans g2,h3.trans g3,h4.trans g4,h5.trans g5⟩
theorem appE_vc (e:Eff) : (appE ops s e).vc=s.vc:=by
 unfold appE
 cases dstOf ops e.i <;> rfl
theorem appAll_vc:∀ (l:List Eff) {s:Sa},(appAll ops s l).vc=s.vc
 | [],s=>rfl
 | e :: l,s=>(appAll_vc l (s:=appE ops s e)).trans (appE_vc e)
def lastW (nm:Name) : List (Name × V) → Option V
 | []=>none
 | x :: l=>match lastW nm l with
  | some c=>some c
  | none=>if x.1=nm then some x.2 else none
theorem look_addAll {nm:Name}:∀ {ws l:List (Name × V)},lookN nm (addAll ws l)=(match lastW nm ws with | some c=>some c | none=>lookN nm l)
 | [],l=>rfl
 | x :: ws,l=>by
  have e:addAll (x :: ws) l=addAll ws (addN x.1 x.2 l):=rfl
  rw [e,look_addAll,lastW]
  cases h:lastW nm ws with
  | some c=>rfl
  | none =>
   simp only [addN,lookN]
   split <;> rfl
def lastE (nm:Name) : List Eff → Option V
 | []=>none
 | e :: l=>match lastE nm l with
  | some c=>some c
  | none=>lastW nm e.w
theorem look_appAll {nm:Name}:∀ {l:List Eff} {s:Sa},lookN nm (appAll ops s l).bx=(match lastE nm l with | some c=>some c | none=>lookN nm s.bx)
 | [],s=>rfl
 | e :: l,s=>by
  have h:appAll ops s (e :: l)=appAll ops (appE ops s e) l:=rfl
  rw [h,look_appAll,lastE]
  cases lastE nm l with
  | some c=>rfl
  | none=>simp only [(appE_fields (ops:=ops) (s:=s) e).2.2.2.2.2,look_addAll]
def writes (nm:Name) (e:Eff) : Bool:=(lastW nm e.w).isSome
theorem lastE_filter {nm:Name}:∀ {l:List Eff},lastE nm l=lastE nm (l.filter (writes nm))
 | []=>rfl
 | e :: l=>by
  rw [List.filter_cons]
  split
  ·simp only [lastE,lastE_filter (l:=l)]
  ·rename_i h
   have h:lastW nm e.w=none:=by simpa [writes] using h
   rw [lastE,h,← lastE_filter (l:=l)]
   cases lastE nm l <;> rfl
def lastT (ops:Array Oper) (t:Nat) : List Eff → Option V
 | []=>none
 | e :: l=>match lastT ops t l with
  | some c=>some c
  | none=>if dstOf ops e.i=some t then some e.v else none
theorem lk_appE {t:Nat} {e:Eff}:lkT t (appE ops s e).ts=if dstOf ops e.i=some t then e.v else lkT t s.ts:=by
 unfold appE
 cases h:dstOf ops e.i with
 | none=>simp [Sa.put]
 | some d=>simp only [Sa.put,lkT_setT',Option.some.injEq]
theorem lk_appAll {t:Nat}:∀ {l:List Eff} {s:Sa},lkT t (appAll ops s l).ts=(match lastT ops t l with | some c=>c | none=>lkT t s.ts)
 | [],s=>rfl
 | e :: l,s=>by
  have h:appAll ops s (e :: l)=appAll ops (appE ops s e) l:=rfl
  rw [h,lk_appAll,lastT]
  cases lastT ops t l with
  | some c=>rfl
  | none =>
   simp only [lk_appE]
   split <;> rfl
def putsT (ops:Array Oper) (t:Nat) (e:Eff) : Bool:=decide (dstOf ops e.i=some t)
theorem lastT_filter {t:Nat}:∀ {l:List Eff},lastT ops t l=lastT ops t (l.filter (putsT ops t))
 | []=>rfl
 | e :: l=>by
  rw [List.filter_cons]
  split
  ·simp only [lastT,lastT_filter (l:=l)]
  ·rename_i h
   have h : ¬ dstOf ops e.i=some t:=by simpa [putsT] using h
   rw [lastT,if_neg h,← lastT_filter (l:=l)]
   cases lastT ops t l <;> rfl
theorem filter_same {α:Type} {l:List α} {q r u:α → Bool} (h:∀ x ∈ l,u x=true → q x=r x) : (l.filter q).filter u=(l.filter r).filter u:=by
 rw [List.filter_filter,List.filter_filter]
 refine List.filter_congr fun x hx=>?_
 cases hu:u x with
 | false=>simp
 | true=>simp [h x hx hu]
theorem refs_put' {nm:Name} {d:Option Tmp} {v:V} (h:s.refs nm=false) (hv:v.refs nm=false) : (s.put d v).refs nm=false:=by
 cases d with
 | none=>exact h
 | some d =>
  simp only [Sa.refs,Bool.or_eq_false_iff] at h ⊢
  refine ⟨⟨?_,h.1.2⟩,h.2⟩
  have h1:=h.1.1
  simp only [Sa.put]
  generalize s.ts=l at h1
  induction l with
  | nil=>simp [setT,hv]
  | cons x l ih =>
   obtain ⟨a,b⟩:=x
   simp only [List.any_cons,Bool.or_eq_false_iff] at h1
   simp only [setT]
   split
   ·simp only [List.any_cons,Bool.or_eq_false_iff]; exact ⟨hv,h1.2⟩
   ·simp only [List.any_cons,Bool.or_eq_false_iff]; exact ⟨h1.1,ih h1.2⟩
theorem refs_appE {nm:Name} {e:Eff} (h:s.refs nm=false) (hv:e.v.refs nm=false) (hw:∀ x ∈ e.w,x.2.refs nm=false) : (appE ops s e).refs nm=false:=by
 refine refs_put' ?_ hv
 simp only [Sa.refs,Bool.or_eq_false_iff] at h ⊢
 refine ⟨h.1,?_⟩
 have h2:=h.2
 generalize s.bx=l at h2
 have:∀ (ws l:List (Name × V)),(∀ x ∈ ws,x.2.refs nm=false) → (l.any fun x=>x.2.refs nm)=false → ((addAll ws l).any fun x=>x.2.refs nm)=false:=by
  intro ws
  induction ws with
  | nil=>intro l _ h; exact h
  | cons x ws ih =>
   intro l hw h
   exact ih _ (fun y hy=>hw y (List.mem_cons_of_mem _ hy)) (by simp only [addN,List.any_cons,Bool.or_eq_false_iff]; exact ⟨hw x List.mem_cons_self,h⟩)
 exact this e.w l hw h2
theorem refs_appAll {nm:Name}:∀ {l:List Eff} {s:Sa},s.refs nm=false → (∀ e ∈ l,e.v.refs nm=false ∧ ∀ x ∈ e.w,x.2.refs nm=false) → (appAll ops s l).refs nm=false
 | [],s,h,_=>h
 | e :: l,s,h,hl=>refs_appAll (s:=appE ops s e) (refs_appE h (hl e List.mem_cons_self).1 (hl e List.mem_cons_self).2) fun x hx=>hl x (List.mem_cons_of_mem _ hx)
def Fact (P:Program) (p:Name) (ops:Array Oper) (s:Sa) (H:Nat → Name → Bool) (fr:Nat → List Name) (L1:List Eff) (e:Eff) : Prop :=
 ∃ o,ops[e.i]? = some o ∧ ∀ s' : Sa,s'.rd=s.rd → s'.n=s.n → s'.sv=s.sv → s'.lp=s.lp → s'.ow=s.ow → s'.vc=s.vc → (∀ t ∈ opReads ops o,lkT t s'.ts=lkT t (appAll ops s L1).ts) →
  (∀ nm,H e.i nm=false → lookN nm s'.bx=lookN nm (appAll ops s L1).bx) → (∀ nm ∈ fr e.i,s'.refs nm=false) →
  ∀ k' : Sa → Prop,(∀ s1,Eqv s1 (appE ops s' e) → k' s1) → evOps P (sems P) p ops [o] s' k'
structure Mix (P:Program) (p:Name) (ops:Array Oper) (s:Sa) (L:List Eff) (pre:Nat → List Nat) (H:Nat → Name → Bool) (fr:Nat → List Name) : Prop where
 nodup:(L.map (·.i)).Nodup
 cov:∀ j,j < ops.size → ∃ e ∈ L,e.i=j
 preOK:∀ e ∈ L,∀ j ∈ pre e.i,j ∈ aftOf ops e.i ∨ ∃ q ∈ aftOf ops e.i,j ∈ pre q
 ord:∀ L1 e L2,L=L1 ++ e :: L2 → (∀ j ∈ pre e.i,∃ x ∈ L1,x.i=j) ∧ ∀ j ∈ aftOf ops e.i,∃ x ∈ L1,x.i=j
 dst:∀ e ∈ L,∀ x ∈ L,e.i ≠ x.i → x.i ∉ pre e.i → e.i ∉ pre x.i → ∀ t,dstOf ops e.i=some t → dstOf ops x.i ≠ some t
 rdw:∀ e ∈ L,∀ x ∈ L,e.i ≠ x.i → x.i ∉ pre e.i → e.i ∉ pre x.i → ∀ t,dstOf ops x.i=some t → t ∉ readsOf ops e.i
 hid:∀ e ∈ L,∀ x ∈ L,e.i ≠ x.i → x.i ∉ pre e.i → e.i ∉ pre x.i → ∀ nm,writes nm x=true → H e.i nm=true
 wr:∀ e ∈ L,∀ x ∈ L,e.i ≠ x.i → x.i ∉ pre e.i → e.i ∉ pre x.i → ∀ nm,writes nm e=true → writes nm x=false
 frs:∀ e ∈ L,∀ nm ∈ fr e.i,s.refs nm=false ∧ ∀ x ∈ L,e.i ≠ x.i → e.i ∉ pre x.i → x.v.refs nm=false ∧ ∀ y ∈ x.w,y.2.refs nm=false
 fact:∀ L1 e L2,L=L1 ++ e :: L2 → Fact P p ops s H fr L1 e
theorem lastE_app {nm:Name} {A B:List Eff}:lastE nm (A ++ B)=(match lastE nm B with | some c=>some c | none=>lastE nm A):=by
 induction A with
 | nil=>simp only [List.nil_append,lastE]; cases lastE nm B <;> rfl
 | cons e A ih=>simp only [List.cons_append,lastE,ih]; cases lastE nm B <;> rfl
theorem lastT_app {t:Nat} {A B:List Eff}:lastT ops t (A ++ B)=(match lastT ops t B with | some c=>some c | none=>lastT ops t A):=by
 induction A with
 | nil=>simp only [List.nil_append,lastT]; cases lastT ops t B <;> rfl
 | cons e A ih=>simp only [List.cons_append,lastT,ih]; cases lastT ops t B <;> rfl
theorem lastE_none {nm:Name} {B:List Eff} (h:∀ x ∈ B,writes nm x=false) : lastE nm B=none:=by
 rw [lastE_filter,List.filter_eq_nil_iff.2 (fun x hx=>by rw [h x hx]; simp)]; rfl
theorem lastT_none {t:Nat} {B:List Eff} (h:∀ x ∈ B,dstOf ops x.i ≠ some t) : lastT ops t B=none:=by
 rw [lastT_filter,List.filter_eq_nil_iff.2 (fun x hx=>by simp [putsT,h x hx])]; rfl
theorem prefix_filter {L1 L2:List Eff} {e:Eff} (hn:((L1 ++ e :: L2).map (·.i)).Nodup) : (L1 ++ e :: L2).filter (fun x=>decide (x.i ∈ L1.map (·.i)))=L1:=by
 rw [List.map_append,List.nodup_append] at hn
 rw [List.filter_append,List.filter_eq_self.2 (fun x hx=>by simpa using ⟨x,hx,rfl⟩),List.filter_eq_nil_iff.2 (fun x hx=>?_),List.append_nil]
 simp only [decide_eq_true_eq]
 intro hc
 exact hn.2.2 _ hc _ (List.mem_map_of_mem hx) rfl
end Go.Ab
namespace Go.Ab
open Go Go.RowKit
set_option linter.unusedVariables false
variable {P:Program} {a:Act} {w:World} {n:Nat} {Mo:Cells} {m:Mp} {s:Sa} {p:Name} {k:Sa → Prop} {Q:Exit → Act → World → Prop} {sv:List Act} {ops:Array Oper}
theorem mix_sound {ds:List Deferred} {L:List Eff} {pre:Nat → List Nat} {H:Nat → Name → Bool} {fr:Nat → List Name} (hM:Mix P p ops s L pre H fr) (hN:RegNext Mo m s ds sv w (fun s'=>Eqv s' (appAll ops s L)) Q) :
  ∀ (N:Nat) (D:Nat → Bool) (listed:Array Bool) (m' : Mp) (a' : Act) (w' : World),(L.filter fun e=>!D e.i).length=N → (∀ e ∈ L,D e.i=true → ∀ j ∈ pre e.i,D j=true) →
   Rel Mo m' (appAll ops s (L.filter fun e=>D e.i)) (a' :: sv) w' → Step m s w m' (appAll ops s (L.filter fun e=>D e.i)) w' → rdOf m' (appAll ops s (L.filter fun e=>D e.i))=rdOf m s → a'.defers=ds → Listed ops listed (fun j=>D j=true) →
   wpAnyIn (Wd (rdOf m s)) n P .any ops Q N listed a' w':=by
 intro N
 induction N with
 | zero =>
  intro D listed m' a' w' hlen hclo hR hst hrd hds hlisted
  have hall:∀ e ∈ L,D e.i=true:=fun e he=>by
   have:=List.eq_nil_of_length_eq_zero hlen
   have:=List.filter_eq_nil_iff.1 this e he
   simpa using this
  have e1:(L.filter fun e=>D e.i)=L:=List.filter_eq_self.2 hall
  rw [e1] at hR hst hrd
  refine ⟨?_,hN m' _ a' w' (Eqv.refl _) hR hst hrd hds⟩
  refine List.eq_nil_iff_forall_not_mem.2 fun i hi=>?_
  obtain ⟨h1,h2,_⟩:=ready_inv hlisted hi
  obtain ⟨e,he,rfl⟩:=hM.cov i h1
  exact h2 (hall e he)
 | succ N ih =>
  intro D listed m' a' w' hlen hclo hR hst hrd hds hlisted
  refine ⟨fun hr=>?_,fun i hi=>?_⟩
  ·
   have hex:∃ e ∈ L,D e.i=false:=by
    refine Classical.byContradiction fun hn=>?_
    have:(L.filter fun e=>!D e.i)=[]:=List.filter_eq_nil_iff.2 fun e he=>by
     cases hd:D e.i
     ·exact absurd ⟨e,he,hd⟩ hn
     ·simp [hd]
    rw [this] at hlen; cases hlen
   obtain ⟨L1,e,L2,e1,e2,e3⟩:=first_in L (fun e=>D e.i=false) hex
   obtain ⟨o,ho,_⟩:=hM.fact L1 e L2 e1
   have:e.i ∈ Region.ready .any ops listed:=ready_intro hlisted ho (by rw [e2]; simp) (fun j hj=>by
    obtain ⟨x,hx,rfl⟩:=(hM.ord L1 e L2 e1).2 j (by simp only [aftOf,ho]; exact hj)
    refine ⟨?_,?_⟩
    ·obtain ⟨A,B,hAB⟩:=List.append_of_mem hx
     obtain ⟨o',ho',_⟩:=hM.fact A x (B ++ e :: L2) (by rw [e1,hAB]; simp)
     exact (Array.getElem?_eq_some_iff.1 ho').1
    ·have:=e3 x hx
     simpa using this)
   rw [hr] at this; cases this
  ·obtain ⟨hlt,hnD,o,ho,haft⟩:=ready_inv hlisted hi
   obtain ⟨e,he,rfl⟩:=hM.cov i hlt
   have hDe:D e.i=false:=by simpa using hnD
   obtain ⟨L1,L2,hL⟩:=List.append_of_mem he
   have hnd:((L1 ++ e :: L2).map (·.i)).Nodup:=by rw [← hL]; exact hM.nodup
   have hnd':=hnd
   rw [List.map_append,List.nodup_append,List.map_cons,List.nodup_cons] at hnd'
   obtain ⟨n1,⟨n2,n3⟩,n4⟩:=hnd'
   have hpreD:∀ j ∈ pre e.i,D j=true:=by
    have aD:∀ q ∈ aftOf ops e.i,D q=true:=fun q hq=>by
     have hq' : q ∈ aft o:=by simpa only [aftOf,ho] using hq
     have h1:=haft q hq'
     have hqs:q < ops.size:=by
      have:q < listed.size:=by
       rcases Nat.lt_or_ge q listed.size with h' | h'
       ·exact h'
       ·simp [Array.getElem?_eq_none h'] at h1
      rw [← hlisted.1]; exact this
     exact (hlisted.false' hqs).1 h1
    intro j hj
    rcases hM.preOK e he j hj with h | ⟨q,hq,hjq⟩
    ·exact aD j h
    ·obtain ⟨x,hx,rfl⟩:=(hM.ord L1 e L2 hL).2 q hq
     exact hclo x (by rw [hL]; simp [hx]) (aD _ hq) j hjq
   have in1:∀ x ∈ L,x.i ≠ e.i → (x.i ∈ L1.map (·.i) ↔ x ∈ L1):=fun x hx hne=>by
    refine ⟨fun h=>?_,fun h=>List.mem_map_of_mem h⟩
    obtain ⟨y,hy,hyx⟩:=List.mem_map.1 h
    have:x=y:=by
     have hin:∀ {l:List Eff},(l.map (·.i)).Nodup → ∀ u ∈ l,∀ v ∈ l,u.i=v.i → u=v:=by
      intro l hl u hu v hv huv
      obtain ⟨a,ha,rfl⟩:=List.getElem_of_mem hu
      obtain ⟨b,hb,rfl⟩:=List.getElem_of_mem hv
      have:=(List.getElem_inj (xs:=l.map (·.i)) (h₀:=by simpa using ha) (h₁:=by simpa using hb) hl).1 (by simpa using huv)
      subst this; rfl
     exact hin hM.nodup x hx y (by rw [hL]; simp [hy]) hyx.symm
    rw [this]; exact hy
   have behind:∀ x ∈ L,e.i ∈ pre x.i → D x.i=false ∧ x ∉ L1:=fun x hx h=>by
    refine ⟨?_,fun hx1=>?_⟩
    ·cases hd:D x.i with
     | false=>rfl
     | true=>have:=hclo x hx hd _ h; rw [hDe] at this; cases this
    ·obtain ⟨A,B,hAB⟩:=List.append_of_mem hx1
     obtain ⟨y,hy,hye⟩:=(hM.ord A x (B ++ e :: L2) (by rw [hL,hAB]; simp)).1 _ h
     exact n4 _ (List.mem_map_of_mem (by rw [hAB]; simp [hy])) _ List.mem_cons_self hye
   have ahead:∀ x ∈ L,x.i ∈ pre e.i → D x.i=true ∧ x.i ∈ L1.map (·.i):=fun x hx h =>
    ⟨hpreD _ h,by obtain ⟨y,hy,hyx⟩:=(hM.ord L1 e L2 hL).1 _ h; exact List.mem_map.2 ⟨y,hy,hyx⟩⟩
   have agree:∀ (u:Eff → Bool),(∀ x ∈ L,u x=true → e.i ≠ x.i → x.i ∉ pre e.i → e.i ∉ pre x.i → False) → (L.filter fun x=>D x.i).filter u=L1.filter u:=by
    intro u hu
    have h0:=prefix_filter hnd
    rw [← hL] at h0
    rw [← h0]
    refine (filter_same fun x hx hux=>?_).trans (by rw [h0])
    by_cases hxe:e.i=x.i
    ·rw [← hxe,hDe]
     symm
     simp only [decide_eq_false_iff_not]
     intro hc
     exact n4 _ hc _ List.mem_cons_self rfl
    ·by_cases h1:x.i ∈ pre e.i
     ·obtain ⟨g1,g2⟩:=ahead x hx h1
      rw [g1]; exact (decide_eq_true g2).symm
     ·by_cases h2:e.i ∈ pre x.i
      ·obtain ⟨g1,g2⟩:=behind x hx h2
       rw [g1]; symm
       simp only [decide_eq_false_iff_not]
       rw [in1 x hx (fun e0=>hxe e0.symm)]
       exact g2
      ·exact (hu x hx hux hxe h1 h2).elim
   obtain ⟨o',ho',hfact⟩:=hM.fact L1 e L2 hL
   rw [ho] at ho'; cases ho'
   obtain ⟨f1,f2,f3,f4,f5⟩:=appAll_fields (ops:=ops) (s:=s) (L.filter fun x=>D x.i)
   let D' : Nat → Bool:=fun j=>D j || Nat.beq j e.i
   have hD' : ∀ x ∈ L,x.i ≠ e.i → D' x.i=D x.i:=fun x hx hne=>by
    have:Nat.beq x.i e.i=false:=by
     cases hb:Nat.beq x.i e.i
     ·rfl
     ·exact absurd (Nat.eq_of_beq_eq_true hb) hne
    simp only [D',this,Bool.or_false]
   have hDe' : D' e.i=true:=by simp [D',Nat.beq_refl]
   have out1:∀ x ∈ L1,x.i ≠ e.i:=fun x hx hc=>n4 _ (List.mem_map_of_mem hx) _ List.mem_cons_self hc
   have out2:∀ x ∈ L2,x.i ≠ e.i:=fun x hx hc=>n2 (by rw [← hc]; exact List.mem_map_of_mem hx)
   have s1:(L.filter fun x=>D x.i)=(L1.filter fun x=>D x.i) ++ (L2.filter fun x=>D x.i):=by
    rw [hL,List.filter_append,List.filter_cons,if_neg (by rw [hDe]; simp)]
   have s2:(L.filter fun x=>D' x.i)=(L1.filter fun x=>D x.i) ++ e :: (L2.filter fun x=>D x.i):=by
    rw [hL,List.filter_append,List.filter_cons,if_pos hDe']
    congr 1
    ·exact List.filter_congr fun x hx=>hD' x (by rw [hL]; simp [hx]) (out1 x hx)
    ·congr 1
     exact List.filter_congr fun x hx=>hD' x (by rw [hL]; simp [hx]) (out2 x hx)
   have late:∀ x ∈ (L2.filter fun x=>D x.i),x ∈ L ∧ e.i ≠ x.i ∧ x.i ∉ pre e.i ∧ e.i ∉ pre x.i:=fun x hx=>by
    obtain ⟨h1,h2⟩:=List.mem_filter.1 hx
    have hxL:x ∈ L:=by rw [hL]; simp [h1]
    have hne:e.i ≠ x.i:=fun h=>out2 x h1 h.symm
    refine ⟨hxL,hne,fun h=>?_,fun h=>?_⟩
    ·have:=(ahead x hxL h).2
     exact n4 _ this _ (List.mem_cons_of_mem _ (List.mem_map_of_mem h1)) rfl
    ·rw [(behind x hxL h).1] at h2; cases h2
   have hE:Eqv (appE ops (appAll ops s (L.filter fun x=>D x.i)) e) (appAll ops s (L.filter fun x=>D' x.i)):=by
    obtain ⟨g1,g2,g3,g4,g5,g6⟩:=appE_fields (ops:=ops) (s:=appAll ops s (L.filter fun x=>D x.i)) e
    obtain ⟨q1,q2,q3,q4,q5⟩:=appAll_fields (ops:=ops) (s:=s) (L.filter fun x=>D' x.i)
    refine ⟨g1.trans (f1.trans q1.symm),g2.trans (f2.trans q2.symm),g3.trans (f3.trans q3.symm),fun nm=>?_,g4.trans (f4.trans q4.symm),g5.trans (f5.trans q5.symm),fun t=>?_,(appE_vc e).trans ((appAll_vc _).trans (appAll_vc _).symm)⟩
    ·rw [g6,look_addAll,look_appAll,look_appAll,s1,s2,lastE_app,lastE_app,lastE]
     cases hw:lastW nm e.w with
     | some c =>
      have:=lastE_none (nm:=nm) (B:=L2.filter fun x=>D x.i) fun x hx=>by
       obtain ⟨h1,h2,h3,h4⟩:=late x hx
       exact hM.wr e he x h1 h2 h3 h4 nm (by simp [writes,hw])
      rw [this]
     | none=>cases lastE nm (L2.filter fun x=>D x.i) <;> rfl
    ·rw [lk_appE,lk_appAll,lk_appAll,s1,s2,lastT_app,lastT_app,lastT]
     split
     ·rename_i hd
      have:=lastT_none (ops:=ops) (t:=t) (B:=L2.filter fun x=>D x.i) fun x hx=>by
       obtain ⟨h1,h2,h3,h4⟩:=late x hx
       exact hM.dst e he x h1 h2 h3 h4 t hd
      rw [this]
     ·cases lastT ops t (L2.filter fun x=>D x.i) <;> rfl
   have hev:evOps P (sems P) p ops [o] (appAll ops s (L.filter fun x=>D x.i)) (fun s1=>Eqv s1 (appAll ops s (L.filter fun x=>D' x.i))):=by
    refine hfact _ f1 f2 f3 f4 f5 (appAll_vc _) (fun t ht=>?_) (fun nm hnm=>?_) (fun nm hnm=>?_) _ fun s1 h=>h.trans hE
    ·rw [lk_appAll,lk_appAll,lastT_filter,agree (putsT ops t) (fun x hx hux h1 h2 h3=>?_),← lastT_filter]
     exact hM.rdw e he x hx h1 h2 h3 t (by simpa [putsT] using hux) (by simpa only [readsOf,ho] using ht)
    ·rw [look_appAll,look_appAll,lastE_filter,agree (writes nm) (fun x hx hux h1 h2 h3=>?_),← lastE_filter]
     have:=hM.hid e he x hx h1 h2 h3 nm hux
     rw [hnm] at this; cases this
    ·obtain ⟨h1,h2⟩:=hM.frs e he nm hnm
     refine refs_appAll h1 fun x hx=>?_
     obtain ⟨hx1,hx2⟩:=List.mem_filter.1 hx
     refine h2 x hx1 (fun h=>?_) fun h=>?_
     ·rw [← h,hDe] at hx2; cases hx2
     ·rw [(behind x hx1 h).1] at hx2; cases hx2
   rw [← hrd]
   refine op1_sound ho hR ?_ hev
   intro m4 s4 a4 w4 hk4 hR4 hst4 hrd4 hds4
   obtain ⟨m5,hR5,hst5,hrd5⟩:=hk4.wk Mo m4 _ w4 hR4
   rw [hrd]
   refine ih D' _ m5 a4 w4 ?_ ?_ hR5 ((hst.trans hst4).trans hst5) (hrd5.trans (hrd4.trans hrd)) (hds4.trans hds) ((hlisted.set e.i).congr fun j=>?_)
   ·have h1:(L.filter fun x=>!D x.i).length=(L1.filter fun x=>!D x.i).length + ((L2.filter fun x=>!D x.i).length + 1):=by
     rw [hL,List.filter_append,List.filter_cons,if_pos (by rw [hDe]; rfl),List.length_append,List.length_cons]
    have h2:(L.filter fun x=>!D' x.i).length=(L1.filter fun x=>!D x.i).length + (L2.filter fun x=>!D x.i).length:=by
     rw [hL,List.filter_append,List.filter_cons,if_neg (by rw [hDe']; simp),List.length_append]
     congr 2
     ·exact List.filter_congr fun x hx=>by rw [hD' x (by rw [hL]; simp [hx]) (out1 x hx)]
     ·exact List.filter_congr fun x hx=>by rw [hD' x (by rw [hL]; simp [hx]) (out2 x hx)]
    omega
   ·intro x hx hdx j hj
    by_cases hxe:x.i=e.i
    ·rw [hxe] at hj
     show (D j || Nat.beq j e.i)=true
     rw [hpreD j hj]; rfl
    ·rw [hD' x hx hxe] at hdx
     show (D j || Nat.beq j e.i)=true
     rw [hclo x hx hdx j hj]; rfl
   ·show (D j=true ∨ j=e.i) ↔ (D j || Nat.beq j e.i)=true
    rw [Bool.or_eq_true,Nat.beq_eq]
end Go.Ab
namespace Go.Ab
open Go Go.RowKit
set_option linter.unusedVariables false
set_option linter.unusedSimpArgs false
variable {P:Program} {a:Act} {w:World} {n:Nat} {Mo:Cells} {m:Mp} {s:Sa} {p:Name} {Q:Exit → Act → World → Prop} {sv:List Act} {ops:Array Oper}
def hide (H:List Name) (s:Sa) : Sa:={ s with bx:=s.bx.filter fun x=>!H.contains x.1 }
theorem look_hide {H:List Name} {nm:Name}:∀ {l:List (Name × V)},lookN nm (l.filter fun x=>!H.contains x.1)=if H.contains nm then none else lookN nm l
 | []=>by simp [lookN]
 | x :: l=>by
  obtain ⟨a,b⟩:=x
  simp only [List.filter_cons]
  split
  ·rename_i h
   simp only [lookN]
   split
   ·rename_i e; subst e
    rw [if_neg (by simpa using h)]
   ·exact look_hide
  ·rename_i h
   rw [look_hide]
   simp only [lookN]
   split
   ·rfl
   ·rename_i hn
    split
    ·rename_i e; subst e
     simp only [Bool.not_eq_true',Bool.not_eq_false] at h
     exact absurd h hn
    ·rfl
def lkD (d:Option Tmp) (s:Sa) : V:=match d with | some t=>lkT t s.ts | none=>.dead
def evMix (P:Program) (p:Name) (ops:Array Oper) (H:Nat → List Name) : List Nat → List Eff → Sa → (List Eff → Sa → Prop) → Prop
 | [],L,s,k=>k L s
 | i :: rest,L,s,k=>match ops[i]? with
  | some o=>match o.op with
   | .alloc ty=>match o.dst,o.guard with
    | some t,none=>t < s.n ∧ (H i).contains (t :: p)=false ∧ (tzero P ty).notNil=true ∧ (tzero P ty).cells.length=tsz P ty ∧ isCells (tzero P ty)=true ∧ lookN (t :: p) s.bx=none ∧
      evMix P p ops H rest (L ++ [⟨i,.ptr (t :: p) 0,[(t :: p,tzero P ty)]⟩]) (appE ops s ⟨i,.ptr (t :: p) 0,[(t :: p,tzero P ty)]⟩) k
    | _,_=>False
   | .store ty x y=>match o.dst,o.guard,s.get x with
    | none,none,.ptr nm off=>match lookN nm s.bx with
     | some c=>(H i).contains nm=false ∧ (s.get y).notNil=true ∧ isCells (s.get y)=true ∧ tsz P ty ≠ 0 ∧ (s.get y).cells.length=tsz P ty ∧ off + tsz P ty ≤ c.cells.length ∧
       evMix P p ops H rest (L ++ [⟨i,.dead,[(nm,storeBox off (s.get y) c)]⟩]) (appE ops s ⟨i,.dead,[(nm,storeBox off (s.get y) c)]⟩) k
     | none=>False
    | _,_,_=>False
   | _=>calm o.op=true ∧ o.dst.isSome=true ∧ nilOK s o.op=true ∧ evOps P (semsP P) p ops [o] (hide (H i) s) fun s' =>
     evMix P p ops H rest (L ++ [⟨i,lkD o.dst s',[]⟩]) { s' with bx:=s.bx } k
  | none=>False
def frOf (ops:Array Oper) (p:Name) (i:Nat) : List Name:=match ops[i]? with
 | some o=>match o.op,o.dst with
  | .alloc _,some t=>[t :: p]
  | _,_=>[]
 | none=>[]
theorem hide_get {H:List Name} (x:Operand) : (hide H s).get x=s.get x:=by cases x <;> rfl
theorem look_set {nm nm' : Name} {c:V}:∀ {l:List (Name × V)} {c0:V},lookN nm l=some c0 → lookN nm' (setN nm c l)=if nm=nm' then some c else lookN nm' l
 | [],c0,h=>by simp [lookN] at h
 | x :: l,c0,h=>by
  obtain ⟨a,b⟩:=x
  simp only [lookN] at h
  simp only [setN]
  split
  ·rename_i e; subst e
   simp only [lookN]
   split <;> rfl
  ·rename_i e
   rw [if_neg e] at h
   simp only [lookN,look_set h]
   split
   ·rename_i e2; subst e2; rw [if_neg (fun e3=>e e3.symm)]
   ·rfl
theorem evMix_run {H:Nat → List Name} {s0:Sa} {k:List Eff → Sa → Prop}:∀ (l:List Nat) {L0:List Eff} {s:Sa},evMix P p ops H l L0 s k → Eqv s (appAll ops s0 L0) →
  ∃ L' s',L'.map (·.i)=l ∧ k (L0 ++ L') s' ∧ Eqv s' (appAll ops s0 (L0 ++ L')) ∧ ∀ L1 e L2,L' = L1 ++ e :: L2 → Fact P p ops s0 (fun i nm=>(H i).contains nm) (frOf ops p) (L0 ++ L1) e
 | [],L0,s,h,hE=>⟨[],s,rfl,by simpa [evMix] using h,by simpa using hE,fun L1 e L2 h=>by simp at h⟩
 | i :: rest,L0,s,h,hE=>by
  have f0:=appAll_fields (ops:=ops) (s:=s0) L0
  have fin:∀ (e:Eff) (s1:Sa),e.i=i → evMix P p ops H rest (L0 ++ [e]) s1 k → Eqv s1 (appE ops s e) → Fact P p ops s0 (fun i nm=>(H i).contains nm) (frOf ops p) L0 e →
    ∃ L' s',L'.map (·.i)=i :: rest ∧ k (L0 ++ L') s' ∧ Eqv s' (appAll ops s0 (L0 ++ L')) ∧ ∀ L1 e L2,L' = L1 ++ e :: L2 → Fact P p ops s0 (fun i nm=>(H i).contains nm) (frOf ops p) (L0 ++ L1) e:=by
   intro e s1 hi hr h1 hf
   have hE2:Eqv (appE ops s e) (appE ops (appAll ops s0 L0) e):=by
    unfold appE
    have h0:Eqv ({ s with bx:=addAll e.w s.bx }:Sa) ({ appAll ops s0 L0 with bx:=addAll e.w (appAll ops s0 L0).bx }:Sa) :=
     ⟨hE.rd,hE.n,hE.sv,fun nm=>by simp only [look_addAll,hE.bx nm],hE.lp,hE.ow,hE.ts,hE.vc⟩
    exact h0.put _ _
   obtain ⟨L',s',g1,g2,g3,g4⟩:=evMix_run rest hr (by rw [appAll_append]; exact h1.trans hE2)
   refine ⟨e :: L',s',by simp [hi,g1],by simpa using g2,by simpa using g3,fun L1 x L2 hx=>?_⟩
   cases L1 with
   | nil =>
    simp only [List.nil_append,List.cons.injEq] at hx
    obtain ⟨rfl,_⟩:=hx
    simpa using hf
   | cons y L1 =>
    simp only [List.cons_append,List.cons.injEq] at hx
    obtain ⟨rfl,hx⟩:=hx
    have:=g4 L1 x L2 hx
    simpa using this
  simp only [evMix] at h
  split at h
  ·rename_i o ho
   split at h
   ·rename_i ty hop
    split at h
    ·rename_i t hd hg
     obtain ⟨h1,h2,h3,h4,h5,h6,h7⟩:=h
     refine fin _ _ rfl h7 (Eqv.refl _) ⟨o,ho,fun s' e1 e2 e3 e4 e5 e9 e6 e7 e8 k' hk'=>?_⟩
     simp only [evOps,hd,hg,evOp,hop,Option.getD_some,claim_notNil h3]
     refine ⟨by rw [e2,← f0.2.1,← hE.n]; exact h1,h4,h5,e8 _ (by simp [frOf,ho,hop,hd]),by rw [e7 _ h2,← hE.bx]; exact h6,hk' _ ?_⟩
     have:dstOf ops i=some t:=(dstOf_eq ho).trans hd
     simp only [appE,this]
     exact Eqv.refl _
    ·exact h.elim
   ·rename_i ty x y hop
    split at h
    ·rename_i nm off hd hg hx
     split at h
     ·rename_i c hc
      obtain ⟨h1,h2,h3,h4,h5,h6,h7⟩:=h
      refine fin _ _ rfl h7 (Eqv.refl _) ⟨o,ho,fun s' e1 e2 e3 e4 e5 e9 e6 e7 e8 k' hk'=>?_⟩
      have hr:=reads_get (ops:=ops) (s:=s) (s':=s') (o:=o) (fun t ht=>(e6 t ht).trans (hE.ts t).symm)
      have gx:=hr x (by simp [hop,Op.operands])
      have gy:=hr y (by simp [hop,Op.operands])
      have gb:lookN nm s'.bx=some c:=by rw [e7 _ h1,← hE.bx]; exact hc
      simp only [evOps,hd,hg,evOp,hop,gx,gy,hx,gb,claim_notNil h2]
      refine ⟨trivial,h3,h4,h5,h6,hk' _ ?_⟩
      have:dstOf ops i=none:=(dstOf_eq ho).trans hd
      simp only [appE,this,Sa.put]
      refine ⟨rfl,rfl,rfl,fun nm'=>?_,rfl,rfl,fun _=>rfl,rfl⟩
      simp only [look_set gb,addAll,List.foldl,addN,lookN]
     ·exact h.elim
    ·exact h.elim
   ·obtain ⟨h1,h2,h3,h4⟩:=h
    have hn:nilOK (hide (H i) s) o.op=true:=by
     rw [← h3]
     cases o.op <;> simp only [nilOK,hide_get]
    obtain ⟨v,s1,hl,hk,hf⟩:=evSeg_op ho h1 hn h4
    obtain ⟨d,hd⟩:=Option.isSome_iff_exists.1 h2
    have hv:lkD o.dst (s1.put o.dst v)=v:=by rw [hd]; simp [lkD,Sa.put,lkT_setT']
    rw [hv] at hk
    have hdst:dstOf ops i=o.dst:=dstOf_eq ho
    refine fin ⟨i,v,[]⟩ _ rfl hk ?_ ?_
    ·simp only [appE,hdst,addAll,List.foldl]
     refine ⟨?_,?_,?_,fun nm=>?_,?_,?_,fun t=>?_,?_⟩
     ·rw [hd]; exact hl.rd
     ·rw [hd]; exact hl.n
     ·rw [hd]; exact hl.sv
     ·rw [hd]; rfl
     ·rw [hd]; exact hl.lp
     ·rw [hd]; exact hl.ow
     ·rw [hd]; simp only [Sa.put,lkT_setT',hl.ts t]; rfl
     ·rw [hd]; exact hl.vc
    ·obtain ⟨o',ho',hf⟩:=hf
     rw [ho] at ho'; cases ho'
     refine ⟨o,ho,fun s' e1 e2 e3 e4 e5 e9 e6 e7 e8 k' hk'=>hf s' ⟨fun nm c hc=>?_,fun nm c hc=>by rw [e9.trans ((appAll_vc L0).symm.trans hE.vc.symm)]; exact hc⟩ (by rw [e2,← f0.2.1,← hE.n]; rfl) (fun t ht=>(e6 t ht).trans (hE.ts t).symm) k' fun s2 hs2=>hk' _ ?_⟩
     ·simp only [hide,look_hide] at hc
      split at hc
      ·cases hc
      ·rename_i hh
       rw [e7 nm (by simpa using hh),← hE.bx]; exact hc
     ·simp only [appE,hdst,addAll,List.foldl]
      exact (hs2.put o.dst v).eqv
  ·exact h.elim
end Go.Ab
namespace Go.Ab
open Go Go.RowKit
set_option linter.unusedVariables false
set_option linter.unusedSimpArgs false
variable {P:Program} {a:Act} {w:World} {n:Nat} {Mo:Cells} {m:Mp} {s:Sa} {p:Name} {sv:List Act} {ops:Array Oper}
def ordB (ops:Array Oper) (pre:Nat → List Nat) : List Nat → List Nat → Bool
 | _,[]=>true
 | E,i :: rest=>(aftOf ops i).all E.contains && ((pre i).all E.contains && ((pre i).all (fun j=>(aftOf ops i).contains j || (aftOf ops i).any fun q=>(pre q).contains j) && (!E.contains i && ordB ops pre (i :: E) rest)))
def unordB (pre:Nat → List Nat) (i j:Nat) : Bool:=!(Nat.beq i j) && (!(pre i).contains j && !(pre j).contains i)
def pairB (ops:Array Oper) (pre:Nat → List Nat) (i j:Nat) : Bool:=!unordB pre i j || match dstOf ops j with
 | some t=>dstOf ops i != some t && !(readsOf ops i).contains t
 | none=>true
def mixOK (ops:Array Oper) (pre:Nat → List Nat) (ord:List Nat) : Bool :=
 ordB ops pre [] ord && (Nat.beq ord.length ops.size && ((List.range ops.size).all ord.contains && ord.all fun i=>ord.all fun j=>pairB ops pre i j))
def Unord (pre:Nat → List Nat) (i j:Nat) : Prop:=i ≠ j ∧ j ∉ pre i ∧ i ∉ pre j
def mixC (ops:Array Oper) (p:Name) (pre:Nat → List Nat) (H:Nat → List Name) (s0:Sa) (L:List Eff) : Prop :=
 (∀ e ∈ L,∀ x ∈ L,Unord pre e.i x.i → ∀ y ∈ x.w,(H e.i).contains y.1=true ∧ ∀ z ∈ e.w,z.1 ≠ y.1) ∧
 ∀ e ∈ L,∀ nm ∈ frOf ops p e.i,s0.refs nm=false ∧ ∀ x ∈ L,e.i ≠ x.i → e.i ∉ pre x.i → x.v.refs nm=false ∧ ∀ y ∈ x.w,y.2.refs nm=false
theorem unordB_iff {pre:Nat → List Nat} {i j:Nat}:unordB pre i j=true ↔ Unord pre i j:=by
 simp only [unordB,Unord,Bool.and_eq_true,Bool.not_eq_true',List.contains_eq_mem,decide_eq_false_iff_not]
 constructor
 ·rintro ⟨h1,h2,h3⟩
  exact ⟨fun e=>(by subst e; rw [Nat.beq_refl] at h1; cases h1),h2,h3⟩
 ·rintro ⟨h1,h2,h3⟩
  refine ⟨?_,h2,h3⟩
  cases hb:Nat.beq i j with
  | false=>rfl
  | true=>exact absurd (Nat.eq_of_beq_eq_true hb) h1
theorem ordB_split {pre:Nat → List Nat}:∀ {l E:List Nat},ordB ops pre E l=true → l.Nodup ∧ (∀ j ∈ l,j ∉ E) ∧ ∀ A i B,l=A ++ i :: B → (∀ j ∈ aftOf ops i,j ∈ E ∨ j ∈ A) ∧ (∀ j ∈ pre i,j ∈ E ∨ j ∈ A) ∧ ∀ j ∈ pre i,j ∈ aftOf ops i ∨ ∃ q ∈ aftOf ops i,j ∈ pre q
 | [],E,_=>⟨List.nodup_nil,by simp,fun A i B h=>by simp at h⟩
 | x :: l,E,h=>by
  simp only [ordB,Bool.and_eq_true,Bool.not_eq_true',List.contains_eq_mem,decide_eq_false_iff_not,List.all_eq_true,decide_eq_true_eq,Bool.or_eq_true,List.any_eq_true] at h
  obtain ⟨h1,h2,h3,h4,h5⟩:=h
  obtain ⟨g1,g2,g3⟩:=ordB_split h5
  refine ⟨List.nodup_cons.2 ⟨fun hc=>g2 x hc List.mem_cons_self,g1⟩,fun j hj=>?_,fun A i B he=>?_⟩
  ·rcases List.mem_cons.1 hj with rfl | hj
   ·exact h4
   ·exact fun hc=>g2 j hj (List.mem_cons_of_mem _ hc)
  ·cases A with
   | nil =>
    simp only [List.nil_append,List.cons.injEq] at he
    obtain ⟨rfl,_⟩:=he
    exact ⟨fun j hj=>.inl (h1 j hj),fun j hj=>.inl (h2 j hj),fun j hj=>h3 j hj⟩
   | cons y A =>
    simp only [List.cons_append,List.cons.injEq] at he
    obtain ⟨rfl,he⟩:=he
    obtain ⟨k1,k2,k3⟩:=g3 A i B he
    have mv:∀ j,(j ∈ x :: E ∨ j ∈ A) → (j ∈ E ∨ j ∈ x :: A):=by
     rintro j (h | h)
     ·rcases List.mem_cons.1 h with rfl | h
      ·exact .inr List.mem_cons_self
      ·exact .inl h
     ·exact .inr (List.mem_cons_of_mem _ h)
    exact ⟨fun j hj=>mv j (k1 j hj),fun j hj=>mv j (k2 j hj),k3⟩
theorem lastW_mem {nm:Name}:∀ {ws:List (Name × V)},(lastW nm ws).isSome=true → ∃ y ∈ ws,y.1=nm
 | [],h=>by cases h
 | x :: ws,h=>by
  simp only [lastW] at h
  cases hw:lastW nm ws with
  | some c=>obtain ⟨y,hy,e⟩:=lastW_mem (nm:=nm) (ws:=ws) (by rw [hw]; rfl); exact ⟨y,List.mem_cons_of_mem _ hy,e⟩
  | none =>
   rw [hw] at h
   simp only at h
   split at h
   ·rename_i e; exact ⟨x,List.mem_cons_self,e⟩
   ·cases h
theorem TC_mix {id:Nat} {Q:Ex → Sa → Prop} (ord:List Nat) (pre:Nat → List Nat) (H:Nat → List Name) (hm:P.follows .mixedOrders=true) (hp:mixOK ops pre ord=true)
  (h:evMix P p ops H ord [] s fun L s'=>mixC ops p pre H s L ∧ Q .norm s') : TC P p (.region id ops true) s Q:=fun Mo m a sv w n hR=>by
 simp only [mixOK,Bool.and_eq_true] at hp
 obtain ⟨hp1,hp2,hp3,hp4⟩:=hp
 have hlen:=Nat.eq_of_beq_eq_true hp2
 obtain ⟨o1,o2,o3⟩:=ordB_split hp1
 obtain ⟨L,s',hL,⟨⟨c1,c2⟩,hq⟩,hE,hF⟩:=evMix_run (s0:=s) ord h (Eqv.refl _)
 simp only [List.nil_append] at hE hF c1 c2
 have mem_ord:∀ e ∈ L,e.i ∈ ord:=fun e he=>by rw [← hL]; exact List.mem_map_of_mem he
 have pair:∀ e ∈ L,∀ x ∈ L,Unord pre e.i x.i → ∀ t,dstOf ops x.i=some t → dstOf ops e.i ≠ some t ∧ t ∉ readsOf ops e.i:=fun e he x hx hu t ht=>by
  have:=List.all_eq_true.1 (List.all_eq_true.1 hp4 e.i (mem_ord e he)) x.i (mem_ord x hx)
  simp only [pairB,unordB_iff.2 hu,Bool.not_true,Bool.false_or,ht,Bool.and_eq_true,bne_iff_ne,Bool.not_eq_true',List.contains_eq_mem,decide_eq_false_iff_not] at this
  exact this
 have hM:Mix P p ops s L pre (fun i nm=>(H i).contains nm) (frOf ops p):=by
  refine ⟨by rw [hL]; exact o1,fun j hj=>?_,fun e he j hj=>?_,fun L1 e L2 he=>?_,fun e he x hx h1 h2 h3 t ht hc=>?_,fun e he x hx h1 h2 h3 t ht=>(pair e he x hx ⟨h1,h2,h3⟩ t ht).2,fun e he x hx h1 h2 h3 nm hw=>?_,fun e he x hx h1 h2 h3 nm hw=>?_,c2,hF⟩
  ·have:j ∈ ord:=by simpa using List.all_eq_true.1 hp3 j (List.mem_range.2 hj)
   rw [← hL] at this
   obtain ⟨e,he,h⟩:=List.mem_map.1 this
   exact ⟨e,he,h⟩
  ·obtain ⟨L1,L2,hs⟩:=List.append_of_mem he
   exact (o3 (L1.map (·.i)) e.i (L2.map (·.i)) (by rw [← hL,hs]; simp)).2.2 j hj
  ·obtain ⟨k1,k2,_⟩:=o3 (L1.map (·.i)) e.i (L2.map (·.i)) (by rw [← hL,he]; simp)
   have cv:∀ j,(j ∈ ([] : List Nat) ∨ j ∈ L1.map (·.i)) → ∃ x ∈ L1,x.i=j:=by
    rintro j (h | h)
    ·cases h
    ·obtain ⟨x,hx,e⟩:=List.mem_map.1 h; exact ⟨x,hx,e⟩
   exact ⟨fun j hj=>cv j (k2 j hj),fun j hj=>cv j (k1 j hj)⟩
  ·exact (pair e he x hx ⟨h1,h2,h3⟩ t hc).1 ht
  ·obtain ⟨y,hy,rfl⟩:=lastW_mem hw
   exact (c1 e he x hx ⟨h1,h2,h3⟩ y hy).1
  ·cases hwx:writes nm x with
   | false=>rfl
   | true =>
    obtain ⟨y,hy,rfl⟩:=lastW_mem hw
    obtain ⟨z,hz,ez⟩:=lastW_mem hwx
    exact absurd ez.symm ((c1 e he x hx ⟨h1,h2,h3⟩ z hz).2 y hy)
 have hb:Below w.heap.size w { w with drawn:=w.drawn + 1 }:=⟨rfl,rfl,rfl,Nat.le_refl _,fun _ _=>rfl⟩
 refine wpIn_region_any hm ?_
 have e0:(L.filter fun e=>(fun _=>false) e.i)=[]:=List.filter_eq_nil_iff.2 fun _ _=>by simp
 have hfuel:(L.filter fun e=>!(fun _=>false) e.i).length=ops.size:=by
  rw [show (L.filter fun e=>!(fun _=>false) e.i)=L from List.filter_eq_self.2 (fun _ _=>rfl),← hlen,← hL,List.length_map]
 have hst:=Step.of_below (m:=m) (s:=s) hb
 refine mix_sound (ds:=a.defers) hM (fun m' s2 a' w' hk hR' hs' hr hd=>?_) ops.size (fun _=>false) _ m a _ hfuel (fun e _ h=>by cases h) (by rw [e0]; exact hR.below hb) (by rw [e0]; exact hst) (by rw [e0]; rfl) rfl ⟨by simp,fun j hj=>by simp [hj]⟩
 obtain ⟨m3,hR3,hst3,hrd3⟩:=(hk.trans hE.symm).wk Mo m' _ w' hR'
 exact ⟨.norm,m3,s',rfl,hq,hR3,hs'.trans hst3,hrd3.trans hr,by rw [hd]; exact .refl⟩
end Go.Ab
namespace Go.Tx
open Go Go.Ab
inductive Cst where
 | nilf | nilp | nilm | nili | fnc (g:Nat)
 deriving DecidableEq
def Cst.val:Cst → Value
 | .nilf=>.nilFunc
 | .nilp=>.pointer none
 | .nilm=>.map none
 | .nili=>.nilIface
 | .fnc g=>.func (.func g) #[] #[]
inductive Ty where
 | int (k:IntKind) | bool | str | cst (c:Cst) | unit | prod (a b:Ty) | st (a:Ty) | arr (n:Nat) (t:Ty) | sl (t:Ty) | mp (k:IntKind) (t:Ty)
 deriving DecidableEq,Inhabited
abbrev Ty.den:Ty → Type
 | .int _=>Int
 | .bool=>Bool
 | .str=>ByteArray
 | .cst _=>Unit
 | .unit=>Unit
 | .prod a b=>a.den × b.den
 | .st a=>a.den
 | .arr n t=>Fin n → t.den
 | .sl t=>List t.den
 | .mp _ t=>List (Int × t.den)
def Ty.size:Ty → Nat
 | .unit=>0
 | .prod a b=>a.size + b.size
 | .st a=>a.size
 | .arr n t=>n * t.size
 | .mp _ _=>0
 | _=>1
def Ty.ag:Ty → Option Bool
 | .st _=>some true
 | .arr _ _=>some true
 | .unit=>none
 | .prod _ _=>none
 | .mp _ _=>none
 | _=>some false
def wrapD (t:Ty) (cs:List D) : D:=match t.ag with
 | some false=>cs.headD default
 | _=>.agg cs
def enc:(t:Ty) → t.den → List D
 | .int k,n=>[.v (.int k n)]
 | .bool,b=>[.v (.bool b)]
 | .str,s=>[.v (.string s)]
 | .cst c,_=>[.v c.val]
 | .unit,_=>[]
 | .prod a b,x=>enc a x.1 ++ enc b x.2
 | .st a,x=>enc a x
 | .arr n t,f=>(List.finRange n).flatMap fun i=>enc t (f i)
 | .sl t,xs=>[.sl (xs.map fun x=>wrapD t (enc t x))]
 | .mp _ _,_=>[]
def encD (t:Ty) (x:t.den) : D:=wrapD t (enc t x)
def Ty.zero:(t:Ty) → t.den
 | .int _=>(0:Int)
 | .bool=>false
 | .str=>ByteArray.empty
 | .cst _=>()
 | .unit=>()
 | .prod a b=>(a.zero,b.zero)
 | .st a=>a.zero
 | .arr _ t=>fun _=>t.zero
 | .sl _=>[]
 | .mp _ _=>[]
abbrev Val:=(t:Ty) × t.den
def Val.d (v:Val) : D:=encD v.1 v.2
def wfT:(t:Ty) → t.den → Prop
 | .int k,n=>inR k n=true
 | .bool,_=>True
 | .str,s=>s.size ≤ 9223372036854775807
 | .cst _,_=>True
 | .unit,_=>True
 | .prod a b,x=>wfT a x.1 ∧ wfT b x.2
 | .st a,x=>wfT a x
 | .arr _ t,f=>∀ i,wfT t (f i)
 | .sl t,xs=>xs.length ≤ 9223372036854775807 ∧ ∀ x ∈ xs,wfT t x
 | .mp _ t,l=>∀ x ∈ l,wfT t x.2
def Val.wf (v:Val) : Prop:=wfT v.1 v.2
def Ty.noMp:Ty → Bool
 | .prod a b=>a.noMp && b.noMp
 | .st a=>a.noMp
 | .arr _ t=>t.noMp
 | .sl t=>t.noMp
 | .mp _ _=>false
 | _=>true
theorem enc_len:∀ (t:Ty) (x:t.den),(enc t x).length=t.size
 | .int _,_ | .bool,_ | .str,_ | .cst _,_ | .unit,_ | .sl _,_ | .mp _ _,_=>rfl
 | .prod a b,x=>by simp [enc,Ty.size,enc_len a,enc_len b]
 | .st a,x=>by simpa [enc,Ty.size] using enc_len a x
 | .arr n t,f=>by
  have e:(fun i=>(enc t (f i)).length)=fun _=>t.size:=funext fun i=>enc_len t _
  show ((List.finRange n).flatMap fun i=>enc t (f i)).length=n * t.size
  rw [List.length_flatMap,e,List.map_const',List.length_finRange,List.sum_replicate_nat]
theorem D.cells_agg (cs:List D) : (D.agg cs).cells=cs:=rfl
def D.flat:D → Bool
 | .agg _=>false
 | _=>true
theorem D.flat_cells {x:D} (h:D.flat x=true) : x.cells=[x]:=by cases x <;> simp_all [D.flat,D.cells]
theorem enc_one {t:Ty} (h:t.ag=some false) (x:t.den) : ∃ y,enc t x=[y] ∧ D.flat y=true:=by
 cases t <;> simp_all [Ty.ag,enc] <;> rfl
theorem encD_cells (t:Ty) (x:t.den) : (encD t x).cells=enc t x:=by
 unfold encD wrapD
 split
 ·rename_i h
  obtain ⟨y,e,hf⟩:=enc_one h x
  rw [e]; exact D.flat_cells hf
 ·rfl
theorem encD_ag {t:Ty} (h:t.ag=some true) (x:t.den) : encD t x = .agg (enc t x):=by simp [encD,wrapD,h]
theorem wfL_mem {xs:List D}:D.wfL xs ↔ ∀ x ∈ xs,x.wf:=by
 induction xs with
 | nil=>simp [D.wfL]
 | cons x xs ih=>simp [D.wfL,ih]
theorem cells_wf {d:D} (h:d.wf) : ∀ y ∈ d.cells,y.wf:=by
 cases d with
 | v c=>simpa [D.cells] using h
 | agg cs=>simpa [D.cells,D.wf,wfL_mem] using h
 | sl xs=>simpa [D.cells] using h
theorem enc_wfT:∀ (t:Ty) (x:t.den),t.noMp=true → (∀ y ∈ enc t x,y.wf) → wfT t x
 | .int k,n,_,h=>by simp only [enc,List.mem_singleton,forall_eq,D.wf,okLeaf] at h; exact h
 | .bool,_,_,_=>trivial
 | .str,_,_,h=>by simp only [enc,List.mem_singleton,forall_eq,D.wf,okLeaf] at h; exact h
 | .cst c,_,_,_=>trivial
 | .unit,_,_,_=>trivial
 | .mp _ _,_,hn,_=>by simp [Ty.noMp] at hn
 | .prod a b,x,hn,h=>by
  simp only [Ty.noMp,Bool.and_eq_true] at hn
  simp only [enc,List.mem_append] at h
  exact ⟨enc_wfT a _ hn.1 fun y hy=>h y (.inl hy),enc_wfT b _ hn.2 fun y hy=>h y (.inr hy)⟩
 | .st a,x,hn,h=>enc_wfT a x hn h
 | .arr n t,f,hn,h=>fun i=>enc_wfT t _ hn fun y hy=>h y (by
   simp only [enc,List.mem_flatMap]; exact ⟨i,List.mem_finRange i,hy⟩)
 | .sl t,xs,hn,h=>by
  simp only [enc,List.mem_singleton,forall_eq,D.wf,List.length_map,wfL_mem,List.mem_map,forall_exists_index,and_imp,forall_apply_eq_imp_iff₂] at h
  exact ⟨h.1,fun x hx=>enc_wfT t x hn fun y hy=>cells_wf (h.2 x hx) y (by rw [show wrapD t (enc t x)=encD t x from rfl,encD_cells]; exact hy)⟩
theorem Val.wf_of_d {v:Val} (hn:v.1.noMp=true) (h:v.d.wf) : v.wf:=enc_wfT _ _ hn fun y hy=>cells_wf h y (by rw [show v.d=encD v.1 v.2 from rfl,encD_cells]; exact hy)
theorem wf_sl {t:Ty} {xs:List t.den}:Val.wf ⟨.sl t,xs⟩ ↔ xs.length ≤ 9223372036854775807 ∧ ∀ x ∈ xs,Val.wf ⟨t,x⟩:=Iff.rfl
theorem wf_prod {a b:Ty} {x:a.den × b.den}:Val.wf ⟨.prod a b,x⟩ ↔ Val.wf ⟨a,x.1⟩ ∧ Val.wf ⟨b,x.2⟩:=Iff.rfl
theorem wf_st {a:Ty} {x:a.den}:Val.wf ⟨.st a,x⟩ ↔ Val.wf ⟨a,x⟩:=Iff.rfl
theorem wf_arr {n:Nat} {t:Ty} {f:Fin n → t.den}:Val.wf ⟨.arr n t,f⟩ ↔ ∀ i,Val.wf ⟨t,f i⟩:=Iff.rfl
theorem wf_int {k:IntKind} {n:Int}:Val.wf ⟨.int k,n⟩ ↔ inR k n=true:=Iff.rfl
theorem wf_bool {b:Bool}:Val.wf ⟨.bool,b⟩:=trivial
theorem wf_str {s:ByteArray}:Val.wf ⟨.str,s⟩ ↔ s.size ≤ 9223372036854775807:=Iff.rfl
theorem wf_cst {c:Cst} {x:Unit}:Val.wf ⟨.cst c,x⟩:=trivial
theorem wf_unit {x:Unit}:Val.wf ⟨.unit,x⟩:=trivial
theorem wf_mp {k:IntKind} {t:Ty} {l:List (Int × t.den)}:Val.wf ⟨.mp k t,l⟩ ↔ ∀ x ∈ l,Val.wf ⟨t,x.2⟩:=Iff.rfl
theorem wf_zero:∀ t:Ty,Val.wf ⟨t,t.zero⟩
 | .int k=>by rw [wf_int]; cases k <;> rfl
 | .bool=>wf_bool
 | .str=>by rw [wf_str]; simp [Ty.zero]
 | .cst _=>wf_cst
 | .unit=>wf_unit
 | .prod a b=>wf_prod.2 ⟨wf_zero a,wf_zero b⟩
 | .st a=>wf_st.2 (wf_zero a)
 | .arr _ t=>wf_arr.2 fun _=>wf_zero t
 | .sl t=>wf_sl.2 ⟨by simp [Ty.zero],by simp [Ty.zero]⟩
 | .mp _ t=>wf_mp.2 (by simp [Ty.zero])
end Go.Tx
namespace Go.Tx
open Go Go.Ab
def Ty.like:Ty → Ty → Bool
 | .cst _,.cst _=>true
 | .prod a b,.prod c d=>a.like c && b.like d
 | .st a,.st b=>a.like b
 | .arr n a,.arr m b=>Nat.beq n m && a.like b
 | a,b=>decide (a=b)
theorem Ty.like_size:∀ {a b:Ty},a.like b=true → a.size=b.size ∧ a.ag=b.ag:=by
 intro a
 induction a <;> intro b h <;> cases b <;> simp [Ty.like,Ty.size,Ty.ag] at h ⊢
 case prod.prod a b ih1 ih2 c d=>rw [(ih1 h.1).1,(ih2 h.2).1]
 case st.st a ih b=>exact (ih h).1
 case arr.arr n a ih m b=>rw [(ih h.2).1,h.1]
def hit (t:Ty) : Option Ty → Bool
 | none=>decide (t.ag=some false)
 | some u=>decide (t.ag=some true) && u.like t
def partF:(t:Ty) → Nat → Option Ty → Option ((u:Ty) × (t.den → u.den))
 | .prod a b,off,w=>if off < a.size then (partF a off w).map fun r=>⟨r.1,fun x=>r.2 x.1⟩ else (partF b (off - a.size) w).map fun r=>⟨r.1,fun x=>r.2 x.2⟩
 | .st a,off,w=>if off=0 ∧ hit (.st a) w=true then some ⟨.st a,fun x=>x⟩ else (partF a off w).map fun r=>⟨r.1,fun x=>r.2 x⟩
 | .arr n u,off,w=>if off=0 ∧ hit (.arr n u) w=true then some ⟨.arr n u,fun x=>x⟩ else
   if h:u.size ≠ 0 ∧ off / u.size < n then (partF u (off % u.size) w).map fun r=>⟨r.1,fun g=>r.2 (g ⟨off / u.size,h.2⟩)⟩ else none
 | t,off,w=>if off=0 ∧ hit t w=true then some ⟨t,fun x=>x⟩ else none
theorem take_drop_append {α:Type} {a b:List α} {o n:Nat} (h:o + n ≤ a.length) : ((a ++ b).drop o).take n=(a.drop o).take n:=by
 rw [List.drop_append_of_le_length (by omega),List.take_append_of_le_length (by simp; omega)]
theorem take_drop_append_r {α:Type} {a b:List α} {o n:Nat} (h:a.length ≤ o) : ((a ++ b).drop o).take n=(b.drop (o - a.length)).take n:=by
 rw [List.drop_append]
 rw [List.drop_eq_nil_of_le h]; simp
theorem flatMap_drop {n:Nat} {t:Ty} (f:Fin n → t.den) : ∀ (l:List (Fin n)) (k:Nat) (hk:k < l.length),(l.flatMap fun i=>enc t (f i)).drop (k * t.size)=enc t (f l[k]) ++ (l.drop (k + 1)).flatMap fun i=>enc t (f i):=by
 intro l
 induction l with
 | nil=>intro k hk; simp at hk
 | cons x l ih =>
  intro k hk
  cases k with
  | zero=>simp
  | succ k =>
   simp only [List.flatMap_cons,List.getElem_cons_succ,List.drop_succ_cons]
   rw [← ih k (by simpa using hk),List.drop_append,Nat.succ_mul]
   rw [List.drop_eq_nil_of_le (by rw [enc_len]; omega),List.nil_append,enc_len]
   congr 1; omega
theorem arr_part {n:Nat} {t:Ty} (f:Fin n → t.den) {o m k:Nat} (hk:k < n) (ho:o + m ≤ t.size) : ((enc (.arr n t) f).drop (k * t.size + o)).take m=((enc t (f ⟨k,hk⟩)).drop o).take m:=by
 have h:=flatMap_drop f (List.finRange n) k (by simpa using hk)
 simp only [List.getElem_finRange,Fin.cast_mk] at h
 rw [enc,← List.drop_drop,h,take_drop_append (by rw [enc_len]; exact ho)]
theorem mul_div_le {o s n:Nat} (h:o / s < n) : o - o % s + s ≤ n * s:=by
 have h1:o / s + 1 ≤ n:=h
 have h2:=Nat.mul_le_mul_right s h1
 have h3:=Nat.div_add_mod o s
 rw [Nat.add_mul,Nat.one_mul,Nat.mul_comm] at h2
 omega
theorem partF_enc:∀ (t:Ty) (off:Nat) (w:Option Ty) (u:Ty) (f:t.den → u.den),partF t off w=some ⟨u,f⟩ →
  off + u.size ≤ t.size ∧ hit u w=true ∧ ∀ x,enc u (f x)=((enc t x).drop off).take u.size:=by
 have base:∀ (t:Ty) (off:Nat) (w:Option Ty) (u:Ty) (f:t.den → u.den),(if off=0 ∧ hit t w=true then some (⟨t,fun x=>x⟩ : (u:Ty) × (t.den → u.den)) else none)=some ⟨u,f⟩ →
   off + u.size ≤ t.size ∧ hit u w=true ∧ ∀ x,enc u (f x)=((enc t x).drop off).take u.size:=by
  intro t off w u f h
  split at h
  ·rename_i hc
   cases h
   exact ⟨by omega,hc.2,fun x=>by rw [hc.1,List.drop_zero,List.take_of_length_le (by rw [enc_len]; exact Nat.le_refl _)]⟩
  ·cases h
 intro t
 induction t with
 | prod a b iha ihb =>
  intro off w u f h
  simp only [partF] at h
  split at h
  ·rename_i hlt
   obtain ⟨⟨v,g⟩,h1,h2⟩:=Option.map_eq_some_iff.1 h
   cases h2
   obtain ⟨k1,k2,k3⟩:=iha _ _ _ _ h1
   refine ⟨by simp only [Ty.size]; omega,k2,fun x=>?_⟩
   simp only [k3,enc]
   rw [take_drop_append (by rw [enc_len]; exact k1)]
  ·rename_i hge
   obtain ⟨⟨v,g⟩,h1,h2⟩:=Option.map_eq_some_iff.1 h
   cases h2
   obtain ⟨k1,k2,k3⟩:=ihb _ _ _ _ h1
   refine ⟨by simp only [Ty.size]; omega,k2,fun x=>?_⟩
   simp only [k3,enc]
   rw [take_drop_append_r (by rw [enc_len]; omega),enc_len]
 | st a ih =>
  intro off w u f h
  simp only [partF] at h
  split at h
  ·rename_i hc
   cases h
   exact ⟨by omega,hc.2,fun x=>by rw [hc.1,List.drop_zero,List.take_of_length_le (by rw [enc_len]; exact Nat.le_refl _)]⟩
  ·obtain ⟨⟨v,g⟩,h1,h2⟩:=Option.map_eq_some_iff.1 h
   cases h2
   obtain ⟨k1,k2,k3⟩:=ih _ _ _ _ h1
   exact ⟨k1,k2,fun x=>k3 x⟩
 | arr n t ih =>
  intro off w u f h
  simp only [partF] at h
  split at h
  ·rename_i hc
   cases h
   exact ⟨by omega,hc.2,fun x=>by rw [hc.1,List.drop_zero,List.take_of_length_le (by rw [enc_len]; exact Nat.le_refl _)]⟩
  ·split at h
   ·rename_i hd
    obtain ⟨⟨v,g⟩,h1,h2⟩:=Option.map_eq_some_iff.1 h
    cases h2
    obtain ⟨k1,k2,k3⟩:=ih _ _ _ _ h1
    have e:off / t.size * t.size + off % t.size=off:=by rw [Nat.mul_comm]; exact Nat.div_add_mod off t.size
    refine ⟨?_,k2,fun x=>?_⟩
    ·have:=mul_div_le hd.2
     have hm:=Nat.mod_le off t.size
     simp only [Ty.size]; omega
    ·simp only [k3]
     rw [← arr_part x hd.2 k1,e]
   ·cases h
 | _=>exact base _
theorem wf_part:∀ {t:Ty} {u:Ty} {off:Nat} {w:Option Ty} {f:t.den → u.den},partF t off w=some ⟨u,f⟩ → ∀ {x:t.den},Val.wf ⟨t,x⟩ → Val.wf ⟨u,f x⟩:=by
 have base:∀ {t:Ty} {u:Ty} {off:Nat} {w:Option Ty} {f:t.den → u.den},(if off=0 ∧ hit t w=true then some (⟨t,fun x=>x⟩ : (u:Ty) × (t.den → u.den)) else none)=some ⟨u,f⟩ → ∀ {x:t.den},Val.wf ⟨t,x⟩ → Val.wf ⟨u,f x⟩:=by
  intro t u off w f h x hx
  split at h
  ·cases h; exact hx
  ·cases h
 intro t
 induction t with
 | prod a b iha ihb =>
  intro u off w f h x hx
  simp only [partF] at h
  split at h
  all_goals
   obtain ⟨⟨v,g⟩,h1,h2⟩:=Option.map_eq_some_iff.1 h
   cases h2
  ·exact iha h1 (wf_prod.1 hx).1
  ·exact ihb h1 (wf_prod.1 hx).2
 | st a ih =>
  intro u off w f h x hx
  simp only [partF] at h
  split at h
  ·cases h; exact hx
  ·obtain ⟨⟨v,g⟩,h1,h2⟩:=Option.map_eq_some_iff.1 h
   cases h2
   exact ih h1 hx
 | arr n t ih =>
  intro u off w f h x hx
  simp only [partF] at h
  split at h
  ·cases h; exact hx
  ·split at h
   ·obtain ⟨⟨v,g⟩,h1,h2⟩:=Option.map_eq_some_iff.1 h
    cases h2
    exact ih h1 (hx _)
   ·cases h
 | _=>intro u off w f h x hx; exact base h hx
def updF:(t u:Ty) → Nat → Option ((v:Ty) × (t.den → u.den → v.den))
 | .prod a b,u,off=>if off < a.size then (updF a u off).map fun r=>⟨.prod r.1 b,fun x y=>(r.2 x.1 y,x.2)⟩ else (updF b u (off - a.size)).map fun r=>⟨.prod a r.1,fun x y=>(x.1,r.2 x.2 y)⟩
 | .st a,u,off=>if off=0 ∧ (Ty.st a).like u=true then some ⟨u,fun _ y=>y⟩ else (updF a u off).map fun r=>⟨.st r.1,fun x y=>r.2 x y⟩
 | .arr n t,u,off=>if off=0 ∧ (Ty.arr n t).like u=true then some ⟨u,fun _ y=>y⟩ else
   if h:t.size ≠ 0 ∧ off / t.size < n then match updF t u (off % t.size) with
    | some ⟨v,f⟩=>if hv:v=t then some ⟨.arr n t,fun g y=>fun j=>if j=⟨off / t.size,h.2⟩ then hv ▸ f (g ⟨off / t.size,h.2⟩) y else g j⟩ else none
    | none=>none
   else none
 | .unit,_,_=>none
 | .mp _ _,_,_=>none
 | t,u,off=>if off=0 ∧ t.like u=true then some ⟨u,fun _ y=>y⟩ else none
def over {α:Type} (cs ds:List α) (off:Nat) : List α:=cs.take off ++ ds ++ cs.drop (off + ds.length)
theorem over_len {α:Type} {cs ds:List α} {off:Nat} (h:off + ds.length ≤ cs.length) : (over cs ds off).length=cs.length:=by
 simp only [over,List.length_append,List.length_take,List.length_drop]; omega
theorem over_left {α:Type} {a b ds:List α} {off:Nat} (h:off + ds.length ≤ a.length) : over (a ++ b) ds off=over a ds off ++ b:=by
 simp only [over]
 rw [List.take_append_of_le_length (by omega),List.drop_append_of_le_length (by omega)]; simp
theorem over_right {α:Type} {a b ds:List α} {off:Nat} (h:a.length ≤ off) : over (a ++ b) ds off=a ++ over b ds (off - a.length):=by
 simp only [over]
 rw [List.take_append,List.take_of_length_le h,List.drop_append,List.drop_eq_nil_of_le (by omega)]
 simp only [List.nil_append,List.append_assoc]
 rw [show off + ds.length - a.length=off - a.length + ds.length by omega]
theorem over_all {α:Type} {cs ds:List α} (h:cs.length=ds.length) : over cs ds 0=ds:=by
 simp only [over,List.take_zero,List.nil_append,Nat.zero_add]
 rw [List.drop_eq_nil_of_le (by omega),List.append_nil]
theorem flatMap_upd {n:Nat} {t:Ty} (f:Fin n → t.den) (i:Fin n) (y:t.den) : ∀ (l:List (Fin n)) (k:Nat) (hk:k < l.length),l[k]=i → l.Nodup →
  (l.flatMap fun j=>enc t (if j=i then y else f j))=over (l.flatMap fun j=>enc t (f j)) (enc t y) (k * t.size):=by
 intro l
 induction l with
 | nil=>intro k hk; simp at hk
 | cons x l ih =>
  intro k hk he hn
  simp only [List.flatMap_cons]
  rw [List.nodup_cons] at hn
  cases k with
  | zero =>
   simp only [List.getElem_cons_zero] at he
   subst he
   rw [Nat.zero_mul,over_left (by simp [enc_len]),over_all (by simp [enc_len]),if_pos rfl]
   congr 1
   simp only [List.flatMap_def]
   congr 1
   exact List.map_congr_left fun j hj=>by
    have:j ≠ x:=fun e=>hn.1 (by rw [← e]; exact hj)
    rw [if_neg this]
  | succ k =>
   simp only [List.getElem_cons_succ] at he
   have hx:x ≠ i:=fun e=>hn.1 (by rw [e,← he]; exact List.getElem_mem _)
   rw [if_neg hx,ih k (by simpa using hk) he hn.2,over_right (by rw [enc_len,Nat.succ_mul]; omega),enc_len,Nat.succ_mul,Nat.add_sub_cancel]
theorem over_over' {α:Type} {A b C c:List α} {p:Nat} (h:p + c.length ≤ b.length) : over (A ++ (b ++ C)) (over b c p) A.length=over (A ++ (b ++ C)) c (A.length + p):=by
 have hl:=over_len h
 have h1:over (A ++ (b ++ C)) (over b c p) A.length=A ++ (over b c p ++ C):=by
  rw [over_right (Nat.le_refl _),Nat.sub_self,over_left (by omega),over_all (by omega)]
 have h2:over (A ++ (b ++ C)) c (A.length + p)=A ++ (over b c p ++ C):=by
  rw [over_right (by omega),Nat.add_sub_cancel_left,over_left (by omega)]
 rw [h1,h2]
theorem over_over {α:Type} {a b c:List α} {o p:Nat} (h:p + c.length ≤ b.length) (hb:o + b.length ≤ a.length) (hs:(a.drop o).take b.length=b) : over a (over b c p) o=over a c (o + p):=by
 have e:a=a.take o ++ (b ++ a.drop (o + b.length)):=by
  conv=>lhs; rw [← List.take_append_drop o a,← List.take_append_drop b.length (a.drop o)]
  rw [hs,List.drop_drop]
 have ht:(a.take o).length=o:=by rw [List.length_take]; omega
 have:=over_over' (A:=a.take o) (C:=a.drop (o + b.length)) h
 rw [← e,ht] at this; exact this
theorem arr_upd {n:Nat} {t:Ty} (f:Fin n → t.den) (i:Fin n) (y:t.den) : enc (.arr n t) (fun j=>if j=i then y else f j)=over (enc (.arr n t) f) (enc t y) (i.1 * t.size) :=
 flatMap_upd f i y (List.finRange n) i.1 (by simp) (by simp) (List.nodup_finRange n)
theorem updF_enc:∀ (t u:Ty) (off:Nat) (v:Ty) (f:t.den → u.den → v.den),updF t u off=some ⟨v,f⟩ →
  off + u.size ≤ t.size ∧ v.size=t.size ∧ v.ag=t.ag ∧ ∀ x y,enc v (f x y)=over (enc t x) (enc u y) off:=by
 have base:∀ (t u:Ty) (off:Nat) (v:Ty) (f:t.den → u.den → v.den),(if off=0 ∧ t.like u=true then some (⟨u,fun _ y=>y⟩ : (v:Ty) × (t.den → u.den → v.den)) else none)=some ⟨v,f⟩ →
   off + u.size ≤ t.size ∧ v.size=t.size ∧ v.ag=t.ag ∧ ∀ x y,enc v (f x y)=over (enc t x) (enc u y) off:=by
  intro t u off v f h
  split at h
  ·rename_i hc
   cases h
   have hl:=Ty.like_size hc.2
   exact ⟨by omega,hl.1.symm,hl.2.symm,fun x y=>by rw [hc.1,over_all (by rw [enc_len,enc_len,hl.1])]⟩
  ·cases h
 intro t
 induction t with
 | prod a b iha ihb =>
  intro u off v f h
  simp only [updF] at h
  split at h
  ·obtain ⟨⟨v',g⟩,h1,h2⟩:=Option.map_eq_some_iff.1 h
   cases h2
   obtain ⟨k1,k2,_,k3⟩:=iha _ _ _ _ h1
   refine ⟨by simp only [Ty.size]; omega,by simp only [Ty.size,k2],rfl,fun x y=>?_⟩
   simp only [k3,enc]
   rw [over_left (by rw [enc_len,enc_len]; exact k1)]
  ·rename_i hge
   obtain ⟨⟨v',g⟩,h1,h2⟩:=Option.map_eq_some_iff.1 h
   cases h2
   obtain ⟨k1,k2,_,k3⟩:=ihb _ _ _ _ h1
   refine ⟨by simp only [Ty.size]; omega,by simp only [Ty.size,k2],rfl,fun x y=>?_⟩
   simp only [k3,enc]
   rw [over_right (by rw [enc_len]; omega),enc_len]
 | st a ih =>
  intro u off v f h
  simp only [updF] at h
  split at h
  ·rename_i hc
   cases h
   have hl:=Ty.like_size hc.2
   exact ⟨by omega,hl.1.symm,hl.2.symm,fun x y=>by rw [hc.1,over_all (by rw [enc_len,enc_len,hl.1])]⟩
  ·obtain ⟨⟨v',g⟩,h1,h2⟩:=Option.map_eq_some_iff.1 h
   cases h2
   obtain ⟨k1,k2,_,k3⟩:=ih _ _ _ _ h1
   exact ⟨k1,k2,rfl,fun x y=>k3 x y⟩
 | arr n t ih =>
  intro u off v f h
  simp only [updF] at h
  split at h
  ·rename_i hc
   cases h
   have hl:=Ty.like_size hc.2
   exact ⟨by omega,hl.1.symm,hl.2.symm,fun x y=>by rw [hc.1,over_all (by rw [enc_len,enc_len,hl.1])]⟩
  ·split at h
   ·rename_i hd
    split at h
    ·rename_i v' g h1
     split at h
     ·rename_i hv
      subst hv
      cases h
      obtain ⟨k1,k2,_,k3⟩:=ih _ _ _ _ h1
      have e:off / v'.size * v'.size + off % v'.size=off:=by rw [Nat.mul_comm]; exact Nat.div_add_mod off v'.size
      have:=mul_div_le hd.2
      have hm:=Nat.mod_le off v'.size
      refine ⟨by simp only [Ty.size]; omega,rfl,rfl,fun x y=>?_⟩
      rw [arr_upd,k3]
      simp only
      rw [over_over (by rw [enc_len,enc_len]; exact k1) (by rw [enc_len,enc_len]; simp only [Ty.size]; omega),e]
      have:=arr_part x (o:=0) (m:=v'.size) hd.2 (by omega)
      simp only [Nat.add_zero,List.drop_zero] at this
      rw [enc_len,this,List.take_of_length_le (by rw [enc_len]; exact Nat.le_refl _)]
     ·cases h
    ·cases h
   ·cases h
 | unit=>intro u off v f h; simp [updF] at h
 | mp k t=>intro u off v f h; simp [updF] at h
 | _=>exact base _
theorem wf_upd:∀ {t u v:Ty} {off:Nat} {f:t.den → u.den → v.den},updF t u off=some ⟨v,f⟩ → ∀ {x:t.den} {y:u.den},Val.wf ⟨t,x⟩ → Val.wf ⟨u,y⟩ → Val.wf ⟨v,f x y⟩:=by
 have base:∀ {t u v:Ty} {off:Nat} {f:t.den → u.den → v.den},(if off=0 ∧ t.like u=true then some (⟨u,fun _ y=>y⟩ : (v:Ty) × (t.den → u.den → v.den)) else none)=some ⟨v,f⟩ → ∀ {x:t.den} {y:u.den},Val.wf ⟨t,x⟩ → Val.wf ⟨u,y⟩ → Val.wf ⟨v,f x y⟩:=by
  intro t u v off f h x y hx hy
  split at h
  ·cases h; exact hy
  ·cases h
 intro t
 induction t with
 | prod a b iha ihb =>
  intro u v off f h x y hx hy
  simp only [updF] at h
  split at h
  all_goals
   obtain ⟨⟨v',g⟩,h1,h2⟩:=Option.map_eq_some_iff.1 h
   cases h2
  ·exact ⟨iha h1 hx.1 hy,hx.2⟩
  ·exact ⟨hx.1,ihb h1 hx.2 hy⟩
 | st a ih =>
  intro u v off f h x y hx hy
  simp only [updF] at h
  split at h
  ·cases h; exact hy
  ·obtain ⟨⟨v',g⟩,h1,h2⟩:=Option.map_eq_some_iff.1 h
   cases h2
   exact ih h1 (x:=x) (y:=y) hx hy
 | arr n t ih =>
  intro u v off f h x y hx hy
  simp only [updF] at h
  split at h
  ·cases h; exact hy
  ·split at h
   ·split at h
    ·rename_i v' g h1
     split at h
     ·rename_i hv
      subst hv
      cases h
      intro j
      show wfT _ (if _ then _ else _)
      split
      ·exact ih h1 (hx _) hy
      ·exact hx j
     ·cases h
    ·cases h
   ·cases h
 | unit=>intro u v off f h; simp [updF] at h
 | mp k t=>intro u v off f h; simp [updF] at h
 | _=>intro u v off f h x y hx hy; exact base h hx hy
end Go.Tx
namespace Go.Tx
open Go Go.Ab
def eqT:(t:Ty) → Option (t.den → t.den → Bool)
 | .int _=>some fun x y=>x == y
 | .bool=>some fun x y=>x == y
 | .unit=>some fun _ _=>true
 | .prod a b=>match eqT a,eqT b with | some f,some g=>some fun x y=>f x.1 y.1 && g x.2 y.2 | _,_=>none
 | .st a=>match eqT a with | some f=>some fun x y=>f x y | none=>none
 | .arr n t=>match eqT t with | some f=>some fun x y=>(List.finRange n).all fun i=>f (x i) (y i) | none=>none
 | _=>none
def kindsT:Ty → Option (List Bool)
 | .int _=>some [false]
 | .bool=>some [true]
 | .unit=>some []
 | .prod a b=>match kindsT a,kindsT b with | some x,some y=>some (x ++ y) | _,_=>none
 | .st a=>kindsT a
 | .arr n t=>(kindsT t).map fun ks=>(List.replicate n ks).flatten
 | _=>none
theorem kindsT_len:∀ {t:Ty} {ks:List Bool},kindsT t=some ks → ks.length=t.size:=by
 intro t
 induction t with
 | prod a b iha ihb =>
  intro ks h
  simp only [kindsT] at h
  split at h
  ·rename_i x y hx hy; cases h; simp [Ty.size,iha hx,ihb hy]
  ·cases h
 | st a ih=>intro ks h; exact ih h
 | arr n t ih =>
  intro ks h
  obtain ⟨k,h1,rfl⟩:=Option.map_eq_some_iff.1 h
  simp [Ty.size,ih h1]
 | int k=>intro ks h; cases h; rfl
 | bool=>intro ks h; cases h; rfl
 | unit=>intro ks h; cases h; rfl
 | _=>intro ks h; simp [kindsT] at h
theorem eqDs_app {ks bs:List Bool} {a b c d:List D} {r s:Bool} (h1:eqDs ks a b=some r) (h2:eqDs bs c d=some s) (ha:a.length=ks.length) (hb:b.length=ks.length) : eqDs (ks ++ bs) (a ++ c) (b ++ d)=some (r && s):=by
 induction ks generalizing a b r with
 | nil =>
  have ea:a=[]:=List.eq_nil_of_length_eq_zero ha
  have eb:b=[]:=List.eq_nil_of_length_eq_zero hb
  subst ea; subst eb
  simp only [eqDs] at h1; cases h1
  simpa using h2
 | cons k ks ih =>
  cases a with
  | nil=>simp at ha
  | cons x a=>cases b with
   | nil=>simp at hb
   | cons y b =>
    have ha' : a.length=ks.length:=by simpa using ha
    have hb' : b.length=ks.length:=by simpa using hb
    rw [List.cons_append,List.cons_append,List.cons_append]
    cases k with
    | true =>
     cases x with
     | v x=>cases x with
      | bool p=>cases y with
       | v y=>cases y with
        | bool q =>
         simp only [eqDs] at h1 ⊢
         split at h1
         ·rename_i r' hr
          cases h1
          rw [ih hr ha' hb']; simp [Bool.and_assoc]
         ·cases h1
        | _=>simp [eqDs] at h1
       | _=>simp [eqDs] at h1
      | _=>simp [eqDs] at h1
     | _=>simp [eqDs] at h1
    | false =>
     cases x with
     | v x=>cases x with
      | int kp p=>cases y with
       | v y=>cases y with
        | int kq q =>
         simp only [eqDs] at h1 ⊢
         split at h1
         ·rename_i hk
          rw [if_pos hk]
          split at h1
          ·rename_i r' hr
           cases h1
           rw [ih hr ha' hb']; simp [Bool.and_assoc]
          ·cases h1
         ·cases h1
        | _=>simp [eqDs] at h1
       | _=>simp [eqDs] at h1
      | _=>simp [eqDs] at h1
     | _=>simp [eqDs] at h1
theorem eqT_arr {t:Ty} {ks:List Bool} {f:t.den → t.den → Bool} (hk:kindsT t=some ks) (h:∀ x y,eqDs ks (enc t x) (enc t y)=some (f x y)) {n:Nat} (x y:Fin n → t.den) : ∀ l:List (Fin n),
  eqDs (List.replicate l.length ks).flatten (l.flatMap fun i=>enc t (x i)) (l.flatMap fun i=>enc t (y i))=some (l.all fun i=>f (x i) (y i)):=by
 intro l
 induction l with
 | nil=>rfl
 | cons i l ih =>
  simp only [List.length_cons,List.replicate_succ,List.flatten_cons,List.flatMap_cons,List.all_cons]
  exact eqDs_app (h _ _) ih (by rw [enc_len,kindsT_len hk]) (by rw [enc_len,kindsT_len hk])
theorem eqT_ok:∀ {t:Ty} {ks:List Bool} {f:t.den → t.den → Bool},kindsT t=some ks → eqT t=some f → ∀ x y,eqDs ks (enc t x) (enc t y)=some (f x y):=by
 intro t
 induction t with
 | prod a b iha ihb =>
  intro ks f hk hf x y
  simp only [kindsT] at hk
  simp only [eqT] at hf
  split at hk
  ·rename_i k1 k2 h1 h2
   split at hf
   ·rename_i f1 f2 g1 g2
    cases hk; cases hf
    exact eqDs_app (iha h1 g1 _ _) (ihb h2 g2 _ _) (by rw [enc_len,kindsT_len h1]) (by rw [enc_len,kindsT_len h1])
   ·cases hf
  ·cases hk
 | st a ih =>
  intro ks f hk hf x y
  simp only [eqT] at hf
  split at hf
  ·rename_i g hg
   cases hf
   exact ih hk hg x y
  ·cases hf
 | arr n t ih =>
  intro ks f hk hf x y
  obtain ⟨k,h1,rfl⟩:=Option.map_eq_some_iff.1 hk
  simp only [eqT] at hf
  split at hf
  ·rename_i g hg
   cases hf
   have:=eqT_arr h1 (ih h1 hg) x y (List.finRange n)
   simp only [List.length_finRange] at this
   exact this
  ·cases hf
 | int k=>intro ks f hk hf x y; cases hk; cases hf; simp [enc,eqDs]
 | bool=>intro ks f hk hf x y; cases hk; cases hf; simp [enc,eqDs]
 | unit=>intro ks f hk hf x y; cases hk; cases hf; rfl
 | _=>intro ks f hk; simp [kindsT] at hk
inductive P1 where
 | part (off:Nat) (w:Option Ty) | len | neg | not | conv (k:IntKind) | mk | fst | snd | some1 | nonneg | sort
 deriving DecidableEq
inductive P2 where
 | bin (op:BinOp) | pair | upd (off:Nat) | mget | mhas | mput
 deriving DecidableEq
def prim1 (o:P1) (t:Ty) : Option ((u:Ty) × (t.den → u.den)) :=
 match o,t with
 | .part off w,t=>partF t off w
 | .len,.sl _=>some ⟨.int .i64,fun l=>(l.length:Int)⟩
 | .len,.str=>some ⟨.int .i64,fun (s:ByteArray)=>(s.size:Int)⟩
 | .neg,.int k=>some ⟨.int k,fun (n:Int)=>k.wrap (0 - n)⟩
 | .not,.bool=>some ⟨.bool,fun (b:Bool)=>!b⟩
 | .conv k,.int _=>some ⟨.int k,fun (n:Int)=>k.wrap n⟩
 | .mk,a=>some ⟨.st a,fun x=>x⟩
 | .fst,.prod a _=>some ⟨a,fun x=>x.1⟩
 | .snd,.prod _ b=>some ⟨b,fun x=>x.2⟩
 | .some1,.sl _=>some ⟨.bool,fun l=>!l.isEmpty⟩
 | .sort,.sl (.int k)=>some ⟨.sl (.int k),fun (l:List Int)=>l.mergeSort (fun a b=>decide (a ≤ b))⟩
 | .nonneg,.int _=>some ⟨.bool,fun (n:Int)=>decide (0 ≤ n)⟩
 | _,_=>none
def binF (op:BinOp) (k:IntKind) : Option ((u:Ty) × (Int → Int → u.den)) :=
 match op with
 | .eql=>some ⟨.bool,fun a b=>a == b⟩
 | .neq=>some ⟨.bool,fun a b=>a != b⟩
 | .lss=>some ⟨.bool,fun a b=>decide (a < b)⟩
 | .leq=>some ⟨.bool,fun a b=>decide (a ≤ b)⟩
 | .gtr=>some ⟨.bool,fun a b=>decide (a > b)⟩
 | .geq=>some ⟨.bool,fun a b=>decide (a ≥ b)⟩
 | .add=>some ⟨.int k,fun a b=>k.wrap (a + b)⟩
 | .sub=>some ⟨.int k,fun a b=>k.wrap (a - b)⟩
 | .mul=>some ⟨.int k,fun a b=>k.wrap (a * b)⟩
 | .and=>some ⟨.int k,fun a b=>andI k a b⟩
 | .or=>some ⟨.int k,fun a b=>orI k a b⟩
 | .xor=>some ⟨.int k,fun a b=>xorI k a b⟩
 | .andNot=>some ⟨.int k,fun a b=>andNotI k a b⟩
 | _=>none
def mgetV {α:Type} (z:α) (l:List (Int × α)) (a:Int) : α:=match l with
 | []=>z
 | (b,c) :: l=>if a=b then c else mgetV z l a
def mhasV {α:Type} (l:List (Int × α)) (a:Int) : Bool:=match l with
 | []=>false
 | (b,_) :: l=>if a=b then true else mhasV l a
def mputV {α:Type} (l:List (Int × α)) (a:Int) (c:α) : List (Int × α):=match l with
 | []=>[(a,c)]
 | (b,e) :: l=>if a=b then (a,c) :: l else (b,e) :: mputV l a c
def prim2 (o:P2) (t u:Ty) : Option ((v:Ty) × (t.den → u.den → v.den)) :=
 match o,t,u with
 | .bin op,.int k,.int q=>if k=q then binF op k else none
 | .bin .eql,.bool,.bool=>some ⟨.bool,fun a b=>a == b⟩
 | .bin .neq,.bool,.bool=>some ⟨.bool,fun a b=>!(a == b)⟩
 | .bin .eql,.str,.str=>some ⟨.bool,fun (a b:ByteArray)=>a.toList == b.toList⟩
 | .bin .neq,.str,.str=>some ⟨.bool,fun (a b:ByteArray)=>!(a.toList == b.toList)⟩
 | .bin op,.st a,.st b=>if h:b=a then (match eqT a,op with
   | some f,.eql=>some ⟨.bool,fun x (y:b.den)=>f x (h ▸ y)⟩
   | some f,.neq=>some ⟨.bool,fun x (y:b.den)=>!(f x (h ▸ y))⟩
   | _,_=>none) else none
 | .bin op,.arr n a,.arr m b=>if h:Ty.arr m b=Ty.arr n a then (match eqT (.arr n a),op with
   | some f,.eql=>some ⟨.bool,fun x (y:(Ty.arr m b).den)=>f x (h ▸ y)⟩
   | some f,.neq=>some ⟨.bool,fun x (y:(Ty.arr m b).den)=>!(f x (h ▸ y))⟩
   | _,_=>none) else none
 | .pair,t,u=>some ⟨.prod t u,fun x y=>(x,y)⟩
 | .upd off,t,u=>updF t u off
 | .mget,.mp k t,.int q=>if k=q then some ⟨t,fun l a=>mgetV t.zero l a⟩ else none
 | .mhas,.mp k _,.int q=>if k=q then some ⟨.bool,fun l a=>mhasV l a⟩ else none
 | .mput,.mp k t,.prod (.int q) u=>if h:u=t then (if k=q then some ⟨.mp k t,fun l x=>mputV l x.1 (h ▸ x.2)⟩ else none) else none
 | _,_,_=>none
inductive E where
 | var (i:Nat) | int (k:IntKind) (n:Int) | bool (b:Bool) | str (s:ByteArray) | cst (c:Cst) | zero (t:Ty) | p1 (o:P1) (x:E) | p2 (o:P2) (x y:E) | pick (c x y:E)
 deriving Inhabited
def app1 (o:P1) : Option Val → Option Val
 | some v=>(prim1 o v.1).map fun r=>⟨r.1,r.2 v.2⟩
 | none=>none
def app2 (o:P2) : Option Val → Option Val → Option Val
 | some v,some u=>(prim2 o v.1 u.1).map fun r=>⟨r.1,r.2 v.2 u.2⟩
 | _,_=>none
def appP:Option Val → Option Val → Option Val → Option Val
 | some ⟨.bool,c⟩,some v,some u=>if h:u.1=v.1 then some ⟨v.1,if c=true then v.2 else h ▸ u.2⟩ else none
 | _,_,_=>none
def E.val (env:List Val) : E → Option Val
 | .var i=>env[i]?
 | .int k n=>if inR k n=true then some ⟨.int k,n⟩ else none
 | .bool b=>some ⟨.bool,b⟩
 | .str s=>if s.size ≤ 9223372036854775807 then some ⟨.str,s⟩ else none
 | .cst c=>some ⟨.cst c,()⟩
 | .zero t=>some ⟨t,t.zero⟩
 | .p1 o x=>app1 o (x.val env)
 | .p2 o x y=>app2 o (x.val env) (y.val env)
 | .pick c x y=>appP (c.val env) (x.val env) (y.val env)
def EnvWf (env:List Val) : Prop:=∀ v ∈ env,v.wf
theorem prim1_wf {o:P1} {t u:Ty} {f:t.den → u.den} (h:prim1 o t=some ⟨u,f⟩) {x:t.den} (hx:Val.wf ⟨t,x⟩) : Val.wf ⟨u,f x⟩:=by
 unfold prim1 at h
 split at h
 ·exact wf_part h hx
 ·cases h; have:=(wf_sl.1 hx).1; rw [wf_int]; simp [inR]; omega
 ·cases h; have:=wf_str.1 hx; rw [wf_int]; simp [inR]; omega
 ·cases h; exact wf_int.2 (inR_wrap _ _)
 ·cases h; exact wf_bool
 ·cases h; exact wf_int.2 (inR_wrap _ _)
 ·cases h; exact wf_st.2 hx
 ·cases h; exact (wf_prod.1 hx).1
 ·cases h; exact (wf_prod.1 hx).2
 ·cases h; exact wf_bool
 ·cases h
  refine wf_sl.2 ⟨by rw [List.length_mergeSort]; exact (wf_sl.1 hx).1,fun y hy=>(wf_sl.1 hx).2 y (List.mem_mergeSort.1 hy)⟩
 ·cases h; exact wf_bool
 ·cases h
theorem binF_wf {op:BinOp} {k:IntKind} {u:Ty} {f:Int → Int → u.den} (h:binF op k=some ⟨u,f⟩) (x y:Int) : Val.wf ⟨u,f x y⟩:=by
 unfold binF at h
 split at h <;> first
  | (cases h; exact wf_bool)
  | (cases h; exact wf_int.2 (inR_wrap _ _))
  | cases h
theorem mget_wf {t:Ty} {l:List (Int × t.den)} {a:Int} (h:∀ x ∈ l,Val.wf ⟨t,x.2⟩) : Val.wf ⟨t,mgetV t.zero l a⟩:=by
 induction l with
 | nil=>exact wf_zero t
 | cons x l ih =>
  obtain ⟨b,c⟩:=x
  simp only [mgetV]
  split
  ·exact h _ List.mem_cons_self
  ·exact ih fun x hx=>h x (List.mem_cons_of_mem _ hx)
theorem mput_wf {t:Ty} {l:List (Int × t.den)} {a:Int} {c:t.den} (h:∀ x ∈ l,Val.wf ⟨t,x.2⟩) (hc:Val.wf ⟨t,c⟩) : ∀ x ∈ mputV l a c,Val.wf ⟨t,x.2⟩:=by
 induction l with
 | nil=>intro x hx; simp only [mputV,List.mem_singleton] at hx; subst hx; exact hc
 | cons y l ih =>
  obtain ⟨b,e⟩:=y
  intro x hx
  simp only [mputV] at hx
  split at hx
  ·rcases List.mem_cons.1 hx with rfl | hx
   ·exact hc
   ·exact h x (List.mem_cons_of_mem _ hx)
  ·rcases List.mem_cons.1 hx with rfl | hx
   ·exact h _ List.mem_cons_self
   ·exact ih (fun x hx=>h x (List.mem_cons_of_mem _ hx)) x hx
theorem prim2_wf {o:P2} {t u v:Ty} {f:t.den → u.den → v.den} (h:prim2 o t u=some ⟨v,f⟩) {x:t.den} {y:u.den} (hx:Val.wf ⟨t,x⟩) (hy:Val.wf ⟨u,y⟩) : Val.wf ⟨v,f x y⟩:=by
 unfold prim2 at h
 split at h
 ·split at h
  ·exact binF_wf h x y
  ·cases h
 ·cases h; exact wf_bool
 ·cases h; exact wf_bool
 ·cases h; exact wf_bool
 ·cases h; exact wf_bool
 ·split at h
  ·split at h
   ·cases h; exact wf_bool
   ·cases h; exact wf_bool
   ·cases h
  ·cases h
 ·split at h
  ·split at h
   ·cases h; exact wf_bool
   ·cases h; exact wf_bool
   ·cases h
  ·cases h
 ·cases h; exact ⟨hx,hy⟩
 ·exact wf_upd h hx hy
 ·split at h
  ·cases h; exact mget_wf (wf_mp.1 hx)
  ·cases h
 ·split at h
  ·cases h; exact wf_bool
  ·cases h
 ·split at h
  ·rename_i e
   subst e
   split at h
   ·cases h; exact mput_wf (wf_mp.1 hx) (wf_prod.1 hy).2
   ·cases h
  ·cases h
 ·cases h
theorem E.val_wf {env:List Val} (he:EnvWf env) : ∀ {x:E} {v:Val},x.val env=some v → v.wf:=by
 intro x
 induction x with
 | var i=>intro v h; exact he v (List.mem_of_getElem? h)
 | int k n =>
  intro v h
  simp only [E.val] at h
  split at h
  ·cases h; exact wf_int.2 (by assumption)
  ·cases h
 | bool b=>intro v h; cases h; exact wf_bool
 | str s =>
  intro v h
  simp only [E.val] at h
  split at h
  ·cases h; exact wf_str.2 (by assumption)
  ·cases h
 | cst c=>intro v h; cases h; exact wf_cst
 | zero t=>intro v h; cases h; exact wf_zero t
 | p1 o x ih =>
  intro v h
  simp only [E.val,app1] at h
  split at h
  ·rename_i a ha
   obtain ⟨⟨u,f⟩,h1,h2⟩:=Option.map_eq_some_iff.1 h
   subst h2
   exact prim1_wf h1 (ih ha)
  ·cases h
 | p2 o x y ihx ihy =>
  intro v h
  simp only [E.val,app2] at h
  split at h
  ·rename_i a b ha hb
   obtain ⟨⟨u,f⟩,h1,h2⟩:=Option.map_eq_some_iff.1 h
   subst h2
   exact prim2_wf h1 (ihx ha) (ihy hb)
  ·cases h
 | pick c x y _ ihx ihy =>
  intro v h
  simp only [E.val,appP] at h
  split at h
  ·rename_i b a c' hc ha hb
   split at h
   ·rename_i e
    obtain ⟨t1,a1⟩:=a
    obtain ⟨t2,a2⟩:=c'
    simp only at e; subst e
    cases h
    show Val.wf ⟨t2,if b=true then a1 else a2⟩
    split
    ·exact ihx ha
    ·exact ihy hb
   ·cases h
  ·cases h
theorem E.val_app {env:List Val} (l:List Val) : ∀ {x:E} {v:Val},x.val env=some v → x.val (env ++ l)=some v:=by
 intro x
 induction x with
 | var i=>intro v h; obtain ⟨hi,e⟩:=List.getElem?_eq_some_iff.1 h; simp only [E.val]; rw [List.getElem?_append_left hi]; exact h
 | p1 o x ih =>
  intro v h
  simp only [E.val,app1] at h ⊢
  split at h
  ·rename_i a ha; rw [ih ha]; exact h
  ·cases h
 | p2 o x y ihx ihy =>
  intro v h
  simp only [E.val,app2] at h ⊢
  split at h
  ·rename_i a b ha hb; rw [ihx ha,ihy hb]; exact h
  ·cases h
 | pick c x y ihc ihx ihy =>
  intro v h
  simp only [E.val,appP] at h ⊢
  split at h
  ·rename_i b a c' hc ha hb; rw [ihc hc,ihx ha,ihy hb]; exact h
  ·cases h
 | _=>intro v h; exact h
def E.lt (n:Nat) : E → Bool
 | .var i=>decide (i < n)
 | .p1 _ x=>x.lt n
 | .p2 _ x y=>x.lt n && y.lt n
 | .pick c x y=>c.lt n && x.lt n && y.lt n
 | _=>true
theorem E.val_lt {env:List Val} (l:List Val) : ∀ {x:E},x.lt env.length=true → x.val (env ++ l)=x.val env:=by
 intro x
 induction x with
 | var i=>intro h; simp only [E.lt,decide_eq_true_eq] at h; simp only [E.val]; rw [List.getElem?_append_left h]
 | p1 o x ih=>intro h; simp only [E.lt] at h; simp only [E.val,ih h]
 | p2 o x y ihx ihy=>intro h; simp only [E.lt,Bool.and_eq_true] at h; simp only [E.val,ihx h.1,ihy h.2]
 | pick c x y ihc ihx ihy=>intro h; simp only [E.lt,Bool.and_eq_true] at h; simp only [E.val,ihc h.1.1,ihx h.1.2,ihy h.2]
 | _=>intro h; rfl
def E.same:E → E → Bool
 | .var i,.var j=>Nat.beq i j
 | .int k n,.int q m=>decide (k=q) && decide (n=m)
 | .bool a,.bool b=>a == b
 | .str a,.str b=>decide (a=b)
 | .cst a,.cst b=>decide (a=b)
 | .zero a,.zero b=>decide (a=b)
 | .p1 o x,.p1 p y=>x.same y && decide (o=p)
 | .p2 o x y,.p2 p u v=>x.same u && y.same v && decide (o=p)
 | .pick a b c,.pick d e f=>a.same d && b.same e && c.same f
 | _,_=>false
theorem E.same_eq:∀ {x y:E},x.same y=true → x=y:=by
 intro x
 induction x <;> intro y h <;> cases y <;> simp only [E.same,Bool.false_eq_true,Bool.and_eq_true,decide_eq_true_eq,beq_iff_eq] at h
 case var.var i j=>rw [Nat.eq_of_beq_eq_true h]
 case int.int k n q m=>rw [h.1,h.2]
 case bool.bool a b=>rw [h]
 case str.str a b=>rw [h]
 case cst.cst a b=>rw [h]
 case zero.zero a b=>rw [h]
 case p1.p1 o x ih p y=>rw [h.2,ih h.1]
 case p2.p2 o x y ihx ihy p u v=>rw [h.2,ihx h.1.1,ihy h.1.2]
 case pick.pick a b c iha ihb ihc d e f=>rw [iha h.1.1,ihb h.1.2,ihc h.2]
def E.size:E → Nat
 | .p1 _ x=>x.size + 1
 | .p2 _ x y=>x.size + y.size + 1
 | .pick c x y=>c.size + x.size + y.size + 1
 | _=>1
def ty1 (o:P1) (t:Ty) : Option Ty:=(prim1 o t).map (·.1)
def ty2 (o:P2) (t u:Ty) : Option Ty:=(prim2 o t u).map (·.1)
def tyE (Γ:List Ty) : E → Option Ty
 | .var i=>Γ[i]?
 | .int k n=>if inR k n=true then some (.int k) else none
 | .bool _=>some .bool
 | .str s=>if s.size ≤ 9223372036854775807 then some .str else none
 | .cst c=>some (.cst c)
 | .zero t=>some t
 | .p1 o x=>match tyE Γ x with | some t=>ty1 o t | none=>none
 | .p2 o x y=>match tyE Γ x,tyE Γ y with | some t,some u=>ty2 o t u | _,_=>none
 | .pick c x y=>match tyE Γ c,tyE Γ x,tyE Γ y with | some .bool,some t,some u=>if u=t then some t else none | _,_,_=>none
theorem val1 {env:List Val} {o:P1} {t u:Ty} {x:E} {a:t.den} (h:ty1 o t=some u) (hx:x.val env=some ⟨t,a⟩) : ∃ f,prim1 o t=some ⟨u,f⟩ ∧ (E.p1 o x).val env=some ⟨u,f a⟩:=by
 obtain ⟨⟨v,f⟩,h1,h2⟩:=Option.map_eq_some_iff.1 h
 simp only at h2; subst h2
 exact ⟨f,h1,by simp [E.val,app1,hx,h1]⟩
theorem val2 {env:List Val} {o:P2} {t u v:Ty} {x y:E} {a:t.den} {b:u.den} (h:ty2 o t u=some v) (hx:x.val env=some ⟨t,a⟩) (hy:y.val env=some ⟨u,b⟩) : ∃ f,prim2 o t u=some ⟨v,f⟩ ∧ (E.p2 o x y).val env=some ⟨v,f a b⟩:=by
 obtain ⟨⟨w,f⟩,h1,h2⟩:=Option.map_eq_some_iff.1 h
 simp only at h2; subst h2
 exact ⟨f,h1,by simp [E.val,app2,hx,hy,h1]⟩
theorem pick_val {env:List Val} {c x z:E} {t:Ty} {b:Bool} {a1 a2:t.den} (hc:c.val env=some ⟨.bool,b⟩) (hx:x.val env=some ⟨t,a1⟩) (hz:z.val env=some ⟨t,a2⟩) : (E.pick c x z).val env=some ⟨t,if b=true then a1 else a2⟩:=by
 simp [E.val,appP,hc,hx,hz]
theorem tyE_ok {env:List Val} {Γ:List Ty} (hg:env.map (·.1)=Γ) : ∀ {x:E} {t:Ty},tyE Γ x=some t → ∃ a,x.val env=some ⟨t,a⟩:=by
 intro x
 induction x with
 | var i =>
  intro t h
  simp only [tyE,← hg,List.getElem?_map] at h
  obtain ⟨⟨u,a⟩,h1,h2⟩:=Option.map_eq_some_iff.1 h
  simp only at h2; subst h2
  exact ⟨a,h1⟩
 | int k n =>
  intro t h
  simp only [tyE] at h
  split at h
  ·rename_i hc; cases h; exact ⟨n,by simp [E.val,hc]⟩
  ·cases h
 | str s =>
  intro t h
  simp only [tyE] at h
  split at h
  ·rename_i hc; cases h; exact ⟨s,by simp [E.val,hc]⟩
  ·cases h
 | bool b=>intro t h; cases h; exact ⟨b,rfl⟩
 | cst c=>intro t h; cases h; exact ⟨(),rfl⟩
 | zero u=>intro t h; cases h; exact ⟨_,rfl⟩
 | p1 o x ih =>
  intro t h
  simp only [tyE] at h
  split at h
  ·rename_i u hu
   obtain ⟨a,ha⟩:=ih hu
   obtain ⟨f,_,h2⟩:=val1 h ha
   exact ⟨_,h2⟩
  ·cases h
 | p2 o x y ihx ihy =>
  intro t h
  simp only [tyE] at h
  split at h
  ·rename_i u v hu hv
   obtain ⟨a,ha⟩:=ihx hu
   obtain ⟨b,hb⟩:=ihy hv
   obtain ⟨f,_,h2⟩:=val2 h ha hb
   exact ⟨_,h2⟩
  ·cases h
 | pick c x y ihc ihx ihy =>
  intro t h
  simp only [tyE] at h
  split at h
  ·rename_i u v hc hu hv
   split at h
   ·rename_i e
    cases h
    subst e
    obtain ⟨b,hb⟩:=ihc hc
    obtain ⟨a1,h1⟩:=ihx hu
    obtain ⟨a2,h2⟩:=ihy hv
    exact ⟨_,pick_val hb h1 h2⟩
   ·cases h
  ·cases h
end Go.Tx
namespace Go.Tx
set_option linter.unusedVariables false
open Go Go.Ab
inductive R2 where
 | idx | aidx | par (op:BinOp) | app (bytes:Nat) | rep (bytes:Nat) | cpy
inductive R3 where
 | slc | aset | lset | ins (bytes:Nat) | del
def rel2 (o:R2) (t u:Ty) : Option ((v:Ty) × (t.den → u.den → Option v.den)) :=
 match o,t,u with
 | .idx,.sl t,.int _=>some ⟨t,fun l (i:Int)=>if 0 ≤ i then l[i.toNat]? else none⟩
 | .aidx,.arr n t,.int _=>some ⟨t,fun f (i:Int)=>if h:0 ≤ i ∧ i.toNat < n then some (f ⟨i.toNat,h.2⟩) else none⟩
 | .par .quo,.int k,.int q=>if k=q then some ⟨.int k,fun (a b:Int)=>if b ≠ 0 then some (k.wrap (a.tdiv b)) else none⟩ else none
 | .par .rem,.int k,.int q=>if k=q then some ⟨.int k,fun (a b:Int)=>if b ≠ 0 then some (a.tmod b) else none⟩ else none
 | .par .shl,.int k,.int _=>some ⟨.int k,fun (a b:Int)=>if 0 ≤ b then some (k.wrap (a * 2 ^ (min b.toNat k.bits))) else none⟩
 | .par .shr,.int k,.int _=>some ⟨.int k,fun (a b:Int)=>if 0 ≤ b then some (a.fdiv (2 ^ (min b.toNat k.bits))) else none⟩
 | .app bytes,.sl t,.sl u=>if h:u=t then (if bytes ≠ 0 then some ⟨.sl t,fun a (b:List u.den)=>if (a.length + b.length) * bytes ≤ 140737488355328 then some (a ++ (h ▸ b:List t.den)) else none⟩ else none) else none
 | .rep bytes,t,.int _=>if bytes ≠ 0 then some ⟨.sl t,fun z (n:Int)=>if 0 ≤ n ∧ n.toNat * bytes ≤ 140737488355328 then some (List.replicate n.toNat z) else none⟩ else none
 | .cpy,.sl t,.sl u=>if h:u=t then some ⟨.sl t,fun a (b:List u.den)=>some ((h ▸ b:List t.den).take a.length ++ a.drop b.length)⟩ else none
 | _,_,_=>none
def rel3 (o:R3) (t u v:Ty) : Option ((w:Ty) × (t.den → u.den → v.den → Option w.den)) :=
 match o,t,u,v with
 | .slc,.sl t,.int _,.int _=>some ⟨.sl t,fun l (lo hi:Int)=>if 0 ≤ lo ∧ lo ≤ hi ∧ hi ≤ l.length then some ((l.take hi.toNat).drop lo.toNat) else none⟩
 | .aset,.arr n t,.int _,v=>if h:v=t then some ⟨.arr n t,fun f (i:Int) (x:v.den)=>if hi:0 ≤ i ∧ i.toNat < n then some (fun j=>if j=⟨i.toNat,hi.2⟩ then (h ▸ x:t.den) else f j) else none⟩ else none
 | .lset,.sl t,.int _,v=>if h:v=t then some ⟨.sl t,fun l (i:Int) (x:v.den)=>if 0 ≤ i ∧ i.toNat < l.length then some (l.set i.toNat (h ▸ x:t.den)) else none⟩ else none
 | .ins bytes,.sl t,.int _,.sl u=>if h:u=t then (if bytes ≠ 0 then some ⟨.sl t,fun l (i:Int) (ys:List u.den)=>if 0 ≤ i ∧ i ≤ l.length ∧ (l.length + ys.length) * bytes ≤ 140737488355328 then some (l.take i.toNat ++ (h ▸ ys:List t.den) ++ l.drop i.toNat) else none⟩ else none) else none
 | .del,.sl t,.int _,.int _=>some ⟨.sl t,fun l (i j:Int)=>if 0 ≤ i ∧ i ≤ j ∧ j ≤ l.length then some (l.take i.toNat ++ l.drop j.toNat) else none⟩
 | _,_,_,_=>none
inductive B where
 | lets (x:E) | guard (c:E) | r2 (o:R2) (x y:E) | r3 (o:R3) (x y z:E) | call (g:Nat) (args:List E) | list (t:Ty) (es:List E) | ifb (gs:List E) (b:B) (t:Ty)
def castL (t:Ty) : List Val → Option (List t.den)
 | []=>some []
 | v :: vs=>if h:v.1=t then (castL t vs).map fun l=>(h ▸ v.2) :: l else none
def holds (env:List Val) : List E → Option Bool
 | []=>some true
 | g :: gs=>match g.val env,holds env gs with
  | some ⟨.bool,b⟩,some r=>some (b && r)
  | _,_=>none
def evs (env:List Val) : List E → Option (List Val)
 | []=>some []
 | e :: es=>match e.val env,evs env es with
  | some v,some vs=>some (v :: vs)
  | _,_=>none
abbrev Calls':=Nat → List Val → Val → Prop
def B.ok (CS:Calls') (env:List Val) (v:Val) : B → Prop
 | .lets x=>x.val env=some v
 | .guard c=>c.val env=some ⟨.bool,true⟩ ∧ v=⟨.unit,()⟩
 | .r2 o x y=>∃ a b r c,x.val env=some a ∧ y.val env=some b ∧ rel2 o a.1 b.1=some r ∧ r.2 a.2 b.2=some c ∧ v=⟨r.1,c⟩
 | .r3 o x y z=>∃ a b d r c,x.val env=some a ∧ y.val env=some b ∧ z.val env=some d ∧ rel3 o a.1 b.1 d.1=some r ∧ r.2 a.2 b.2 d.2=some c ∧ v=⟨r.1,c⟩
 | .call g args=>∃ vs,evs env args=some vs ∧ CS g vs v
 | .list t es=>∃ vs l,evs env es=some vs ∧ castL t vs=some l ∧ es.length ≤ 16777216 ∧ v=⟨.sl t,l⟩
 | .ifb gs b t=>∃ c,holds env gs=some c ∧ (c=true → b.ok CS env v ∧ v.1=t) ∧ (c=false → v=⟨t,t.zero⟩)
inductive T where
 | fail | hole (i:Nat) | jump (j:Nat) (es:List E) | bind (b:B) (t:Ty) (k:T) | ite (c:E) (x y:T)
 | letj (ps:List Ty) (k body:T)
 | loop (ps:List Ty) (init:List E) (body:T)
 | range (ps:List Ty) (init:List E) (l:E) (body done:T)
 deriving Inhabited
abbrev Jt:=Nat → List Val → Prop
def consJ (K:List Val → Prop) (J:Jt) : Jt
 | 0=>K
 | j + 1=>J j
def repeatN (ps:List Ty) (F:(List Val → Prop) → List Val → Prop) : Nat → List Val → Prop
 | 0,_=>False
 | n + 1,vs=>vs.map (·.1)=ps ∧ F (repeatN ps F n) vs
def rangeN {α:Type} (ps:List Ty) (F:(List Val → Prop) → Int → α → List Val → Prop) (done:List Val → Prop) : List α → Int → List Val → Prop
 | [],_,vs=>vs.map (·.1)=ps ∧ done vs
 | x :: l,i,vs=>vs.map (·.1)=ps ∧ F (rangeN ps F done l (i + 1)) i x vs
def T.sat (CS:Calls') : T → Jt → (Nat → List Val → Prop) → List Val → Prop
 | .fail,_,_,_=>False
 | .hole i,_,Q,env=>Q i env
 | .jump j es,J,_,env=>∃ vs,evs env es=some vs ∧ J j vs
 | .bind b t k,J,Q,env=>∃ v:Val,v.1=t ∧ b.ok CS env v ∧ k.sat CS J Q (env ++ [v])
 | .ite c x y,J,Q,env=>∃ b,c.val env=some ⟨.bool,b⟩ ∧ (b=true → x.sat CS J Q env) ∧ (b=false → y.sat CS J Q env)
 | .letj ps k body,J,Q,env=>body.sat CS (consJ (fun vs=>vs.map (·.1)=ps ∧ k.sat CS J Q (env ++ vs)) J) Q env
 | .loop ps init body,J,Q,env=>∃ n vs,evs env init=some vs ∧ repeatN ps (fun again vs=>body.sat CS (consJ again J) Q (env ++ vs)) n vs
 | .range ps init l body done,J,Q,env=>∃ (t:Ty) (es:List t.den) (vs:List Val),l.val env=some ⟨.sl t,es⟩ ∧ evs env init=some vs ∧
   rangeN ps (fun again i x vs=>body.sat CS (consJ again J) Q (env ++ vs ++ [⟨.int .i64,i⟩,⟨t,x⟩])) (fun vs=>done.sat CS J Q (env ++ vs)) es 0 vs
section
variable {CS:Calls'}
theorem repeatN_mono {ps:List Ty} {F G:(List Val → Prop) → List Val → Prop} (h:∀ K K' vs,(∀ x,K x → K' x) → F K vs → G K' vs) : ∀ n vs,repeatN ps F n vs → repeatN ps G n vs
 | 0,_,h'=>h'
 | n + 1,vs,h'=>⟨h'.1,h _ _ _ (repeatN_mono h n) h'.2⟩
theorem rangeN_mono {α:Type} {ps:List Ty} {F G:(List Val → Prop) → Int → α → List Val → Prop} {d e:List Val → Prop} (h:∀ K K' i x vs,(∀ x,K x → K' x) → F K i x vs → G K' i x vs) (hd:∀ vs,d vs → e vs) : ∀ l i vs,rangeN ps F d l i vs → rangeN ps G e l i vs
 | [],_,vs,h'=>⟨h'.1,hd _ h'.2⟩
 | _ :: l,i,vs,h'=>⟨h'.1,h _ _ _ _ _ (rangeN_mono h hd l (i + 1)) h'.2⟩
theorem consJ_mono {K K' : List Val → Prop} {J J' : Jt} (hK:∀ vs,K vs → K' vs) (hJ:∀ j vs,J j vs → J' j vs) : ∀ j vs,consJ K J j vs → consJ K' J' j vs
 | 0,vs,h=>hK vs h
 | j + 1,vs,h=>hJ j vs h
theorem T.sat_mono:∀ {t:T} {J J' : Jt} {Q Q' : Nat → List Val → Prop} {env:List Val},(∀ j vs,J j vs → J' j vs) → (∀ i e,Q i e → Q' i e) → t.sat CS J Q env → t.sat CS J' Q' env:=by
 intro t
 induction t with
 | fail=>intro _ _ _ _ _ _ _ h; exact h
 | hole i=>intro _ _ _ _ _ _ hQ h; exact hQ _ _ h
 | jump j es=>intro _ _ _ _ _ hJ _ h; obtain ⟨vs,h1,h2⟩:=h; exact ⟨vs,h1,hJ _ _ h2⟩
 | bind b t k ih=>intro _ _ _ _ _ hJ hQ h; obtain ⟨v,h0,h1,h2⟩:=h; exact ⟨v,h0,h1,ih hJ hQ h2⟩
 | ite c x y ihx ihy=>intro _ _ _ _ _ hJ hQ h; obtain ⟨b,h1,h2,h3⟩:=h; exact ⟨b,h1,fun e=>ihx hJ hQ (h2 e),fun e=>ihy hJ hQ (h3 e)⟩
 | letj ps k body ihk ihb=>intro _ _ _ _ _ hJ hQ h; exact ihb (consJ_mono (fun vs hv=>⟨hv.1,ihk hJ hQ hv.2⟩) hJ) hQ h
 | loop ps init body ih =>
  intro _ _ _ _ _ hJ hQ h
  obtain ⟨n,vs,h1,h2⟩:=h
  refine ⟨n,vs,h1,repeatN_mono ?_ n vs h2⟩
  intro K K' vs hK h
  exact ih (consJ_mono hK hJ) hQ h
 | range ps init l body done ihb ihd =>
  intro _ _ _ _ _ hJ hQ h
  obtain ⟨t,es,vs,h1,h2,h3⟩:=h
  refine ⟨t,es,vs,h1,h2,rangeN_mono ?_ ?_ es 0 vs h3⟩
  ·intro K K' i x vs hK h
   exact ihb (consJ_mono hK hJ) hQ h
  ·intro vs h
   exact ihd hJ hQ h
def T.lift (c:Nat) : T → T
 | .jump j es=>.jump (if j < c then j else j + 1) es
 | .bind b t k=>.bind b t (k.lift c)
 | .ite e x y=>.ite e (x.lift c) (y.lift c)
 | .letj ps k body=>.letj ps (k.lift c) (body.lift (c + 1))
 | .loop ps init body=>.loop ps init (body.lift (c + 1))
 | .range ps init l body done=>.range ps init l (body.lift (c + 1)) (done.lift c)
 | t=>t
def T.sub (σ:Nat → T) : T → T
 | .hole i=>σ i
 | .bind b t k=>.bind b t (k.sub σ)
 | .ite e x y=>.ite e (x.sub σ) (y.sub σ)
 | .letj ps k body=>.letj ps (k.sub σ) (body.sub fun i=>(σ i).lift 0)
 | .loop ps init body=>.loop ps init (body.sub fun i=>(σ i).lift 0)
 | .range ps init l body done=>.range ps init l (body.sub fun i=>(σ i).lift 0) (done.sub σ)
 | t=>t
def cut (c:Nat) (J:Jt) : Jt:=fun j=>J (if j < c then j else j + 1)
theorem cut_cons (c:Nat) (K:List Val → Prop) (J:Jt) : consJ K (cut c J)=cut (c + 1) (consJ K J):=by
 funext j
 cases j with
 | zero=>simp [consJ,cut]
 | succ j =>
  simp only [consJ,cut,Nat.add_lt_add_iff_right]
  split <;> rfl
theorem T.sat_lift:∀ {t:T} {c:Nat} {J:Jt} {Q:Nat → List Val → Prop} {env:List Val},(t.lift c).sat CS J Q env=t.sat CS (cut c J) Q env:=by
 intro t
 induction t with
 | fail=>intros; rfl
 | hole i=>intros; rfl
 | jump j es=>intros; rfl
 | bind b t k ih=>intros; simp only [T.lift,T.sat,ih]
 | ite c x y ihx ihy=>intros; simp only [T.lift,T.sat,ihx,ihy]
 | letj ps k body ihk ihb=>intros; simp only [T.lift,T.sat,ihk,ihb,cut_cons]
 | loop ps init body ih=>intros; simp only [T.lift,T.sat,ih,cut_cons]
 | range ps init l body done ihb ihd=>intros; simp only [T.lift,T.sat,ihb,ihd,cut_cons]
theorem cut_zero (K:List Val → Prop) (J:Jt) : cut 0 (consJ K J)=J:=by
 funext j; simp [cut,consJ]
theorem T.sat_sub:∀ {t:T} {σ:Nat → T} {J:Jt} {Q:Nat → List Val → Prop} {env:List Val},(t.sub σ).sat CS J Q env=t.sat CS J (fun i e=>(σ i).sat CS J Q e) env:=by
 intro t
 induction t with
 | fail=>intros; rfl
 | hole i=>intros; rfl
 | jump j es=>intros; rfl
 | bind b t k ih=>intros; simp only [T.sub,T.sat,ih]
 | ite c x y ihx ihy=>intros; simp only [T.sub,T.sat,ihx,ihy]
 | letj ps k body ihk ihb=>intros; simp only [T.sub,T.sat,ihk,ihb,T.sat_lift,cut_zero]
 | loop ps init body ih=>intros; simp only [T.sub,T.sat,ih,T.sat_lift,cut_zero]
 | range ps init l body done ihb ihd=>intros; simp only [T.sub,T.sat,ihb,ihd,T.sat_lift,cut_zero]
theorem rel2_wf {o:R2} {t u v:Ty} {f:t.den → u.den → Option v.den} (h:rel2 o t u=some ⟨v,f⟩) {x:t.den} {y:u.den} {c:v.den} (hf:f x y=some c) (hx:Val.wf ⟨t,x⟩) (hy:Val.wf ⟨u,y⟩) : Val.wf ⟨v,c⟩:=by
 unfold rel2 at h
 split at h
 ·cases h
  simp only at hf
  split at hf
  ·exact (wf_sl.1 hx).2 c (List.mem_of_getElem? hf)
  ·cases hf
 ·cases h
  simp only at hf
  split at hf
  ·cases hf; exact wf_arr.1 hx _
  ·cases hf
 ·split at h
  ·cases h; simp only at hf; split at hf
   ·cases hf; exact wf_int.2 (inR_wrap _ _)
   ·cases hf
  ·cases h
 ·split at h
  ·cases h; simp only at hf; split at hf
   ·rename_i hb; cases hf; exact wf_int.2 (inR_tmod hb (wf_int.1 hx))
   ·cases hf
  ·cases h
 ·cases h; simp only at hf; split at hf
  ·cases hf; exact wf_int.2 (inR_wrap _ _)
  ·cases hf
 ·cases h; simp only at hf; split at hf
  ·cases hf; exact wf_int.2 (inR_fdiv _ (wf_int.1 hx))
  ·cases hf
 ·split at h
  ·rename_i e
   subst e
   split at h
   ·rename_i hb
    cases h; simp only at hf; split at hf
    ·rename_i hle
     cases hf
     refine wf_sl.2 ⟨?_,fun z hz=>?_⟩
     ·simp only [List.length_append]
      have h1:=Nat.le_mul_of_pos_right (x.length + y.length) (Nat.pos_of_ne_zero hb)
      omega
     ·rcases List.mem_append.1 hz with hz | hz
      ·exact (wf_sl.1 hx).2 z hz
      ·exact (wf_sl.1 hy).2 z hz
    ·cases hf
   ·cases h
  ·cases h
 ·split at h
  ·rename_i hb
   cases h
   simp only at hf
   split at hf
   ·rename_i hle
    cases hf
    refine wf_sl.2 ⟨?_,fun z hz=>by rw [List.eq_of_mem_replicate hz]; exact hx⟩
    rw [List.length_replicate]
    have h1:=Nat.le_mul_of_pos_right (Int.toNat y) (Nat.pos_of_ne_zero hb)
    omega
   ·cases hf
  ·cases h
 ·split at h
  ·rename_i e
   subst e
   cases h
   simp only [Option.some.injEq] at hf
   subst hf
   refine wf_sl.2 ⟨?_,fun z hz=>?_⟩
   ·have:=(wf_sl.1 hx).1
    have:=(wf_sl.1 hy).1
    simp only [List.length_append,List.length_take,List.length_drop]; omega
   ·rcases List.mem_append.1 hz with hz | hz
    ·exact (wf_sl.1 hy).2 z (List.mem_of_mem_take hz)
    ·exact (wf_sl.1 hx).2 z (List.mem_of_mem_drop hz)
  ·cases h
 ·cases h
theorem rel3_wf {o:R3} {t u v w:Ty} {f:t.den → u.den → v.den → Option w.den} (h:rel3 o t u v=some ⟨w,f⟩) {x:t.den} {y:u.den} {z:v.den} {c:w.den} (hf:f x y z=some c) (hx:Val.wf ⟨t,x⟩) (hz:Val.wf ⟨v,z⟩) : Val.wf ⟨w,c⟩:=by
 unfold rel3 at h
 split at h
 ·cases h
  simp only at hf
  split at hf
  ·cases hf
   refine wf_sl.2 ⟨?_,fun q hq=>(wf_sl.1 hx).2 q (List.mem_of_mem_take (List.mem_of_mem_drop hq))⟩
   have:=(wf_sl.1 hx).1
   simp only [List.length_drop,List.length_take]; omega
  ·cases hf
 ·split at h
  ·rename_i e
   subst e
   cases h
   simp only at hf
   split at hf
   ·cases hf
    refine wf_arr.2 fun j=>?_
    split
    ·exact hz
    ·exact wf_arr.1 hx j
   ·cases hf
  ·cases h
 ·split at h
  ·rename_i e
   subst e
   cases h
   simp only at hf
   split at hf
   ·cases hf
    refine wf_sl.2 ⟨by rw [List.length_set]; exact (wf_sl.1 hx).1,fun q hq=>?_⟩
    rcases List.mem_or_eq_of_mem_set hq with hq | rfl
    ·exact (wf_sl.1 hx).2 q hq
    ·exact hz
   ·cases hf
  ·cases h
 ·split at h
  ·rename_i e
   subst e
   split at h
   ·rename_i hb
    cases h
    simp only at hf
    split at hf
    ·rename_i hle
     cases hf
     refine wf_sl.2 ⟨?_,fun q hq=>?_⟩
     ·obtain ⟨_,h2,h3⟩:=hle
      have h1:=Nat.le_mul_of_pos_right (x.length + z.length) (Nat.pos_of_ne_zero hb)
      simp only [List.length_append,List.length_take,List.length_drop]; omega
     ·rcases List.mem_append.1 hq with hq | hq
      ·rcases List.mem_append.1 hq with hq | hq
       ·exact (wf_sl.1 hx).2 q (List.mem_of_mem_take hq)
       ·exact (wf_sl.1 hz).2 q hq
      ·exact (wf_sl.1 hx).2 q (List.mem_of_mem_drop hq)
    ·cases hf
   ·cases h
  ·cases h
 ·cases h
  simp only at hf
  split at hf
  ·cases hf
   refine wf_sl.2 ⟨?_,fun q hq=>?_⟩
   ·have:=(wf_sl.1 hx).1
    simp only [List.length_append,List.length_take,List.length_drop]; omega
   ·rcases List.mem_append.1 hq with hq | hq
    ·exact (wf_sl.1 hx).2 q (List.mem_of_mem_take hq)
    ·exact (wf_sl.1 hx).2 q (List.mem_of_mem_drop hq)
  ·cases hf
 ·cases h
theorem castL_wf {t:Ty}:∀ {vs:List Val} {l:List t.den},castL t vs=some l → (∀ v ∈ vs,v.wf) → l.length=vs.length ∧ ∀ x ∈ l,Val.wf ⟨t,x⟩
 | [],l,h,_=>by cases h; simp
 | v :: vs,l,h,hw=>by
  obtain ⟨u,x⟩:=v
  simp only [castL] at h
  split at h
  ·rename_i e
   subst e
   obtain ⟨l',h1,h2⟩:=Option.map_eq_some_iff.1 h
   subst h2
   obtain ⟨k1,k2⟩:=castL_wf h1 fun v hv=>hw v (List.mem_cons_of_mem _ hv)
   refine ⟨by simp [k1],fun y hy=>?_⟩
   rcases List.mem_cons.1 hy with rfl | hy
   ·exact hw _ List.mem_cons_self
   ·exact k2 y hy
  ·cases h
theorem evs_len {env:List Val}:∀ {es:List E} {vs:List Val},evs env es=some vs → vs.length=es.length
 | [],vs,h=>by cases h; rfl
 | e :: es,vs,h=>by
  simp only [evs] at h
  split at h
  ·rename_i v vs' h1 h2; cases h; simp [evs_len h2]
  ·cases h
def CallsWf (CS:Calls') : Prop:=∀ g vs v,CS g vs v → v.wf
theorem EnvWf.app {env l:List Val} (h:EnvWf env) (hl:∀ v ∈ l,v.wf) : EnvWf (env ++ l):=fun v hv=>(List.mem_append.1 hv).elim (h v) (hl v)
theorem EnvWf.snoc {env:List Val} {v:Val} (h:EnvWf env) (hv:v.wf) : EnvWf (env ++ [v]):=h.app (by simpa using hv)
theorem evs_wf {env:List Val} (he:EnvWf env) : ∀ {es:List E} {vs:List Val},evs env es=some vs → ∀ v ∈ vs,v.wf
 | [],vs,h=>by cases h; simp
 | e :: es,vs,h=>by
  simp only [evs] at h
  split at h
  ·rename_i v vs' h1 h2
   cases h
   intro x hx
   rcases List.mem_cons.1 hx with rfl | hx
   ·exact E.val_wf he h1
   ·exact evs_wf he h2 x hx
  ·cases h
theorem B.ok_wf (hCS:CallsWf CS) {env:List Val} {v:Val} (he:EnvWf env) : ∀ {b:B},b.ok CS env v → v.wf
 | .lets _,h=>E.val_wf he h
 | .guard _,h=>by rw [h.2]; exact wf_unit
 | .r2 o x y,⟨a,b,r,c,h1,h2,h3,h4,h5⟩=>by rw [h5]; exact rel2_wf h3 h4 (E.val_wf he h1) (E.val_wf he h2)
 | .r3 o x y z,⟨a,b,d,r,c,h1,h2,h3,h4,h5,h6⟩=>by rw [h6]; exact rel3_wf h4 h5 (E.val_wf he h1) (E.val_wf he h3)
 | .call g args,⟨vs,h1,h2⟩=>hCS _ _ _ h2
 | .list t es,⟨vs,l,h1,h2,h3,h4⟩=>by
  obtain ⟨k1,k2⟩:=castL_wf h2 (evs_wf he h1)
  have:=evs_len h1
  rw [h4]; exact wf_sl.2 ⟨by omega,k2⟩
 | .ifb gs b t,⟨c,h1,h2,h3⟩=>by
  cases c with
  | true=>exact B.ok_wf hCS he (h2 rfl).1
  | false=>rw [h3 rfl]; exact wf_zero t
abbrev WfL (vs:List Val) : Prop:=∀ v ∈ vs,v.wf
theorem T.sat_ext (hCS:CallsWf CS) : ∀ {t:T} {J:Jt} {Q:Nat → List Val → Prop} {env:List Val},EnvWf env → t.sat CS J Q env →
  t.sat CS (fun j vs=>WfL vs ∧ J j vs) (fun i e=>(∃ l,e=env ++ l) ∧ EnvWf e ∧ Q i e) env:=by
 intro t
 induction t with
 | fail=>intro J Q env he h; exact h
 | hole i=>intro J Q env he h; exact ⟨⟨[],by simp⟩,he,h⟩
 | jump j es=>intro J Q env he h; obtain ⟨vs,h1,h2⟩:=h; exact ⟨vs,h1,evs_wf he h1,h2⟩
 | bind b t k ih =>
  intro J Q env he h
  obtain ⟨v,h0,h1,h2⟩:=h
  exact ⟨v,h0,h1,T.sat_mono (fun _ _ h=>h) (fun i e h=>⟨by obtain ⟨⟨l,e⟩,_⟩:=h; exact ⟨v :: l,by simp [e]⟩,h.2⟩) (ih (he.snoc (B.ok_wf hCS he h1)) h2)⟩
 | ite c x y ihx ihy=>intro J Q env he h; obtain ⟨b,h1,h2,h3⟩:=h; exact ⟨b,h1,fun e=>ihx he (h2 e),fun e=>ihy he (h3 e)⟩
 | letj ps k body ihk ihb =>
  intro J Q env he h
  refine T.sat_mono (t:=body) ?_ (fun _ _ h=>h) (ihb he h)
  intro j vs hj
  cases j with
  | zero=>exact ⟨hj.2.1,T.sat_mono (fun _ _ h=>h) (fun i e h=>⟨by obtain ⟨⟨l,e⟩,_⟩:=h; exact ⟨vs ++ l,by simp [e]⟩,h.2⟩) (ihk (he.app hj.1) hj.2.2)⟩
  | succ j=>exact hj
 | loop ps init body ih =>
  intro J Q env he h
  obtain ⟨n,vs,h1,h2⟩:=h
  refine ⟨n,vs,h1,?_⟩
  have key:∀ n vs,WfL vs → repeatN ps (fun again vs=>body.sat CS (consJ again J) Q (env ++ vs)) n vs →
    repeatN ps (fun again vs=>body.sat CS (consJ again fun j vs=>WfL vs ∧ J j vs) (fun i e=>(∃ l,e=env ++ l) ∧ EnvWf e ∧ Q i e) (env ++ vs)) n vs:=by
   intro n
   induction n with
   | zero=>intro vs _ h; exact h
   | succ n ihn =>
    intro vs hw h
    refine ⟨h.1,T.sat_mono ?_ (fun i e h=>⟨by obtain ⟨⟨l,e⟩,_⟩:=h; exact ⟨vs ++ l,by simp [e]⟩,h.2⟩) (ih (he.app hw) h.2)⟩
    intro j us hj
    cases j with
    | zero=>exact ihn us hj.1 hj.2
    | succ j=>exact hj
  exact key n vs (evs_wf he h1) h2
 | range ps init l body done ihb ihd =>
  intro J Q env he h
  obtain ⟨t,es,vs,h1,h2,h3⟩:=h
  refine ⟨t,es,vs,h1,h2,?_⟩
  have hsl:=wf_sl.1 (E.val_wf he h1)
  have key:∀ (es:List t.den) (i:Int) (vs:List Val),(∀ x ∈ es,Val.wf ⟨t,x⟩) → 0 ≤ i → i + es.length ≤ 9223372036854775807 → WfL vs → rangeN ps (fun again i x vs=>body.sat CS (consJ again J) Q (env ++ vs ++ [⟨.int .i64,i⟩,⟨t,x⟩])) (fun vs=>done.sat CS J Q (env ++ vs)) es i vs →
    rangeN ps (fun again i x vs=>body.sat CS (consJ again fun j vs=>WfL vs ∧ J j vs) (fun i e=>(∃ l,e=env ++ l) ∧ EnvWf e ∧ Q i e) (env ++ vs ++ [⟨.int .i64,i⟩,⟨t,x⟩])) (fun vs=>done.sat CS (fun j vs=>WfL vs ∧ J j vs) (fun i e=>(∃ l,e=env ++ l) ∧ EnvWf e ∧ Q i e) (env ++ vs)) es i vs:=by
   intro es
   induction es with
   | nil =>
    intro i vs _ _ _ hw h
    exact ⟨h.1,T.sat_mono (fun _ _ h=>h) (fun i e h=>⟨by obtain ⟨⟨l,e⟩,_⟩:=h; exact ⟨vs ++ l,by simp [e]⟩,h.2⟩) (ihd (he.app hw) h.2)⟩
   | cons x es ihn =>
    intro i' vs hes hi hle hw h
    have hl:(x :: es).length=es.length + 1:=rfl
    refine ⟨h.1,T.sat_mono ?_ (fun i e h=>⟨by obtain ⟨⟨l,e⟩,_⟩:=h; exact ⟨vs ++ ([⟨.int .i64,i'⟩,⟨t,x⟩] ++ l),by simp [e]⟩,h.2⟩) (ihb ((he.app hw).app ?_) h.2)⟩
    ·intro j us hj
     cases j with
     | zero=>exact ihn (i' + 1) us (fun x hx=>hes x (List.mem_cons_of_mem _ hx)) (by omega) (by omega) hj.1 hj.2
     | succ j=>exact hj
    ·intro v hv
     simp only [List.mem_cons,List.not_mem_nil,or_false] at hv
     rcases hv with rfl | rfl
     ·exact wf_int.2 (by simp [inR]; omega)
     ·exact hes x List.mem_cons_self
  exact key es 0 vs hsl.2 (by omega) (by have:=hsl.1; omega) (evs_wf he h2) h3
end
end Go.Tx
namespace Go.Tx
set_option linter.unusedVariables false
open Go Go.Ab
inductive SV where
 | e (t:Ty) (x:E)
 | nil
 | own (id:Name) (sz:Nat) (t:Ty) (x:E)
 | ptr (n:Name) (off:Nat)
 | aptr (n:Name) (off m:Nat) (t:Ty) (i:E) (inn:Nat)
 | ref (t:Ty) (x:E) (off:Nat)
 | fn (f:Nat) (cap:List SV)
 | yld (l:Name)
 | mref (n:Name)
 | mpc (k:IntKind) (t:Ty) (x:E)
 | agg (cs:List SV)
 | mix (t:Ty) (x:E) (os:List Nat) (zs:List SV)
 | tup (vs:List SV)
 | kd (cs:List Value)
 | gd (gs:List E) (x:SV)
 | vsl (n:Name)
 | vpt (n:Name) (t:Ty) (i:E) (inn:Nat)
 | dead
 deriving Inhabited
def scal:(t:Ty) → t.den → Option Value
 | .int k,n=>some (.int k n)
 | .bool,b=>some (.bool b)
 | .str,s=>some (.string s)
 | .cst c,_=>some c.val
 | _,_=>none
theorem scal_enc {t:Ty} {x:t.den} {c:Value} (h:scal t x=some c) : encD t x = .v c:=by
 cases t <;> simp [scal] at h <;> subst h <;> rfl
def typed (env:List Val) : SV → Prop
 | .e t x=>∃ a,x.val env=some ⟨t,a⟩
 | .ref t x _=>∃ a,x.val env=some ⟨t,a⟩
 | .own _ _ t x=>∃ a,x.val env=some ⟨.sl t,a⟩
 | _=>True
theorem typed_app {env:List Val} (l:List Val) {x:SV} (h:typed env x) : typed (env ++ l) x:=by
 cases x <;> simp only [typed] at h ⊢
 all_goals (obtain ⟨a,h⟩:=h; exact ⟨a,E.val_app l h⟩)
mutual
def InstV (env:List Val) : SV → V → Prop
 | .e t x,v=>∃ a,x.val env=some ⟨t,a⟩ ∧ v = .d (encD t a)
 | .nil,v=>v = .nil
 | .own id sz t x,v=>∃ a:List t.den,x.val env=some ⟨.sl t,a⟩ ∧ t.size=sz ∧ v = .own id sz (a.map (encD t))
 | .ptr n off,v=>v = .ptr n off
 | .aptr n off m t i inn,v=>∃ (k:IntKind) (j:Int),i.val env=some ⟨.int k,j⟩ ∧ 0 ≤ j ∧ j.toNat < m ∧ v = .ptr n (off + j.toNat * t.size + inn)
 | .ref t x off,v=>∃ a cs,x.val env=some ⟨t,a⟩ ∧ v = .ref cs ∧ ((enc t a).drop off) <+: cs
 | .fn f cap,v=>∃ c,v = .fn f c ∧ InstL env cap c
 | .yld l,v=>v = .yld l
 | .mref n,v=>v = .mref n
 | .mpc k t x,v=>∃ (a:List (Int × t.den)) (kvs:List (Int × Value)),x.val env=some ⟨.mp k t,a⟩ ∧ v = .mpc k kvs ∧ a.map (fun y=>(y.1,scal t y.2))=kvs.map (fun y=>(y.1,some y.2))
 | .agg cs,v=>∃ c,v = .agg c ∧ InstL env cs c
 | .mix t x os zs,v=>∃ a c,x.val env=some ⟨t,a⟩ ∧ v = .agg c ∧ c.length=t.size ∧ InstP env os zs c ∧ ∀ i,i < t.size → i ∉ os → c[i]? = ((enc t a)[i]?).map V.d
 | .tup cs,v=>∃ c,v = .tup c ∧ InstL env cs c
 | .kd cs,v=>v = .d (.agg (cs.map constD))
 | .gd gs x,v=>∃ b,holds env gs=some b ∧ typed env x ∧ (b=true → InstV env x v) ∧ (b=false → v = .tup [])
 | .vsl n,v=>v = .vsl n
 | .vpt n t i inn,v=>∃ (k:IntKind) (j:Int),i.val env=some ⟨.int k,j⟩ ∧ 0 ≤ j ∧ v = .vpt n (j.toNat * t.size + inn)
 | .dead,v=>v = .dead
def InstL (env:List Val) : List SV → List V → Prop
 | [],vs=>vs=[]
 | x :: xs,vs=>∃ v vs',vs=v :: vs' ∧ InstV env x v ∧ InstL env xs vs'
def InstP (env:List Val) : List Nat → List SV → List V → Prop
 | os,[],c=>os=[]
 | os,z :: zs,c=>∃ i os',os=i :: os' ∧ (∃ v,c[i]? = some v ∧ InstV env z v) ∧ InstP env os' zs c
end
theorem holds_app {env:List Val} (l:List Val) : ∀ {gs:List E} {b:Bool},holds env gs=some b → holds (env ++ l) gs=some b
 | [],b,h=>h
 | g :: gs,b,h=>by
  simp only [holds] at h ⊢
  split at h
  ·rename_i c r h1 h2
   rw [E.val_app l h1,holds_app l h2]; exact h
  ·cases h
mutual
theorem InstV.app {env:List Val} (l:List Val) : ∀ {x:SV} {v:V},InstV env x v → InstV (env ++ l) x v
 | .e t x,v,h=>by simp only [InstV] at h ⊢; obtain ⟨a,h1,h2⟩:=h; exact ⟨a,E.val_app l h1,h2⟩
 | .nil,v,h=>h
 | .own id sz t x,v,h=>by simp only [InstV] at h ⊢; obtain ⟨a,h1,h2⟩:=h; exact ⟨a,E.val_app l h1,h2⟩
 | .ptr n off,v,h=>h
 | .aptr n off m t i inn,v,h=>by simp only [InstV] at h ⊢; obtain ⟨k,j,h1,h2⟩:=h; exact ⟨k,j,E.val_app l h1,h2⟩
 | .ref t x off,v,h=>by simp only [InstV] at h ⊢; obtain ⟨a,cs,h1,h2⟩:=h; exact ⟨a,cs,E.val_app l h1,h2⟩
 | .fn f cap,v,h=>by simp only [InstV] at h ⊢; obtain ⟨c,h1,h2⟩:=h; exact ⟨c,h1,InstL.app l h2⟩
 | .yld n,v,h=>h
 | .mref n,v,h=>h
 | .mpc k t x,v,h=>by simp only [InstV] at h ⊢; obtain ⟨a,kvs,h1,h2⟩:=h; exact ⟨a,kvs,E.val_app l h1,h2⟩
 | .agg cs,v,h=>by simp only [InstV] at h ⊢; obtain ⟨c,h1,h2⟩:=h; exact ⟨c,h1,InstL.app l h2⟩
 | .mix t x os zs,v,h=>by simp only [InstV] at h ⊢; obtain ⟨a,c,h1,h2,h3,h4,h5⟩:=h; exact ⟨a,c,E.val_app l h1,h2,h3,InstP.app l h4,h5⟩
 | .tup cs,v,h=>by simp only [InstV] at h ⊢; obtain ⟨c,h1,h2⟩:=h; exact ⟨c,h1,InstL.app l h2⟩
 | .kd cs,v,h=>h
 | .gd gs x,v,h=>by simp only [InstV] at h ⊢; obtain ⟨b,h1,h0,h2,h3⟩:=h; exact ⟨b,holds_app l h1,typed_app l h0,fun e=>InstV.app l (h2 e),h3⟩
 | .vsl n,v,h=>h
 | .vpt n t i inn,v,h=>by simp only [InstV] at h ⊢; obtain ⟨k,j,h1,h2⟩:=h; exact ⟨k,j,E.val_app l h1,h2⟩
 | .dead,v,h=>h
theorem InstL.app {env:List Val} (l:List Val) : ∀ {xs:List SV} {vs:List V},InstL env xs vs → InstL (env ++ l) xs vs
 | [],vs,h=>h
 | x :: xs,vs,h=>by simp only [InstL] at h ⊢; obtain ⟨v,vs',h1,h2,h3⟩:=h; exact ⟨v,vs',h1,InstV.app l h2,InstL.app l h3⟩
theorem InstP.app {env:List Val} (l:List Val) : ∀ {zs:List SV} {os:List Nat} {c:List V},InstP env os zs c → InstP (env ++ l) os zs c
 | [],os,c,h=>h
 | z :: zs,os,c,h=>by simp only [InstP] at h ⊢; obtain ⟨i,os',h1,⟨v,h2,h3⟩,h4⟩:=h; exact ⟨i,os',h1,⟨v,h2,InstV.app l h3⟩,InstP.app l h4⟩
end
theorem InstL.len {env:List Val}:∀ {xs:List SV} {vs:List V},InstL env xs vs → vs.length=xs.length
 | [],vs,h=>by simp only [InstL] at h; simp [h]
 | x :: xs,vs,h=>by simp only [InstL] at h; obtain ⟨v,vs',h1,h2,h3⟩:=h; simp [h1,h3.len]
theorem InstL.get {env:List Val}:∀ {xs:List SV} {vs:List V},InstL env xs vs → ∀ {i:Nat} {x:SV},xs[i]? = some x → ∃ v,vs[i]? = some v ∧ InstV env x v
 | [],vs,h,i,x,hx=>by simp at hx
 | y :: xs,vs,h,i,x,hx=>by
  simp only [InstL] at h
  obtain ⟨v,vs',h1,h2,h3⟩:=h
  subst h1
  cases i with
  | zero=>simp at hx; subst hx; exact ⟨v,by simp,h2⟩
  | succ i=>simpa using h3.get (by simpa using hx)
theorem InstL.append {env:List Val}:∀ {xs ys:List SV} {vs us:List V},InstL env xs vs → InstL env ys us → InstL env (xs ++ ys) (vs ++ us)
 | [],ys,vs,us,h,h'=>by simp only [InstL] at h; subst h; exact h'
 | x :: xs,ys,vs,us,h,h'=>by
  simp only [InstL] at h
  obtain ⟨v,vs',h1,h2,h3⟩:=h
  subst h1
  simp only [List.cons_append,InstL]
  exact ⟨v,_,rfl,h2,h3.append h'⟩
theorem InstL.drop {env:List Val}:∀ {n:Nat} {xs:List SV} {vs:List V},InstL env xs vs → InstL env (xs.drop n) (vs.drop n)
 | 0,xs,vs,h=>h
 | n + 1,[],vs,h=>by simp only [InstL] at h; subst h; simp [InstL]
 | n + 1,x :: xs,vs,h=>by simp only [InstL] at h; obtain ⟨v,vs',h1,h2,h3⟩:=h; subst h1; exact h3.drop
theorem InstL.take {env:List Val}:∀ {n:Nat} {xs:List SV} {vs:List V},InstL env xs vs → InstL env (xs.take n) (vs.take n)
 | 0,xs,vs,h=>by simp [InstL]
 | n + 1,[],vs,h=>by simp only [InstL] at h; subst h; simp [InstL]
 | n + 1,x :: xs,vs,h=>by simp only [InstL] at h; obtain ⟨v,vs',h1,h2,h3⟩:=h; subst h1; simp only [List.take_succ_cons,InstL]; exact ⟨v,_,rfl,h2,h3.take⟩
def InstK {κ:Type} (env:List Val) : List (κ × SV) → List (κ × V) → Prop
 | [],l=>l=[]
 | (k,x) :: xs,l=>∃ v l',l=(k,v) :: l' ∧ InstV env x v ∧ InstK env xs l'
theorem InstK.app {κ:Type} {env:List Val} (l:List Val) : ∀ {xs:List (κ × SV)} {vs:List (κ × V)},InstK env xs vs → InstK (env ++ l) xs vs
 | [],vs,h=>h
 | (k,x) :: xs,vs,h=>by simp only [InstK] at h ⊢; obtain ⟨v,vs',h1,h2,h3⟩:=h; exact ⟨v,vs',h1,h2.app l,h3.app l⟩
def lkS (t:Nat) : List (Nat × SV) → SV
 | []=>.dead
 | (s,v) :: l=>if s=t then v else lkS t l
def setS (t:Nat) (x:SV) : List (Nat × SV) → List (Nat × SV)
 | []=>[(t,x)]
 | (s,v) :: l=>if s=t then (s,x) :: l else (s,v) :: setS t x l
theorem InstK.lk {env:List Val} {t:Nat}:∀ {xs:List (Nat × SV)} {vs:List (Nat × V)},InstK env xs vs → InstV env (lkS t xs) (lkT t vs)
 | [],vs,h=>by simp only [InstK] at h; subst h; simp [lkS,lkT,InstV]
 | (k,x) :: xs,vs,h=>by
  simp only [InstK] at h
  obtain ⟨v,vs',h1,h2,h3⟩:=h
  subst h1
  simp only [lkS,lkT]
  split
  ·exact h2
  ·exact h3.lk
theorem InstK.set {env:List Val} {t:Nat} {x:SV} {v:V} (hv:InstV env x v) : ∀ {xs:List (Nat × SV)} {vs:List (Nat × V)},InstK env xs vs → InstK env (setS t x xs) (setT t v vs)
 | [],vs,h=>by simp only [InstK] at h; subst h; simp only [setS,setT,InstK]; exact ⟨v,[],rfl,hv,rfl⟩
 | (k,y) :: xs,vs,h=>by
  simp only [InstK] at h
  obtain ⟨u,vs',h1,h2,h3⟩:=h
  subst h1
  simp only [setS,setT]
  split
  ·exact ⟨v,vs',rfl,hv,h3⟩
  ·exact ⟨u,_,rfl,h2,h3.set hv⟩
theorem InstK.look {env:List Val} {n:Name}:∀ {xs:List (Name × SV)} {vs:List (Name × V)},InstK env xs vs → (∀ {x},lookN n xs=some x → ∃ v,lookN n vs=some v ∧ InstV env x v) ∧ (lookN n xs=none → lookN n vs=none)
 | [],vs,h=>by simp only [InstK] at h; subst h; simp [lookN]
 | (k,y) :: xs,vs,h=>by
  simp only [InstK] at h
  obtain ⟨u,vs',h1,h2,h3⟩:=h
  subst h1
  simp only [lookN]
  split
  ·exact ⟨fun e=>by cases e; exact ⟨u,rfl,h2⟩,fun e=>by cases e⟩
  ·exact h3.look
theorem InstK.setN {env:List Val} {n:Name} {x:SV} {v:V} (hv:InstV env x v) : ∀ {xs:List (Name × SV)} {vs:List (Name × V)},InstK env xs vs → InstK env (Ab.setN n x xs) (Ab.setN n v vs)
 | [],vs,h=>by simp only [InstK] at h; subst h; simp [Ab.setN,InstK]
 | (k,y) :: xs,vs,h=>by
  simp only [InstK] at h
  obtain ⟨u,vs',h1,h2,h3⟩:=h
  subst h1
  simp only [Ab.setN]
  split
  ·exact ⟨v,vs',rfl,hv,h3⟩
  ·exact ⟨u,_,rfl,h2,h3.setN hv⟩
theorem InstK.map {κ:Type} {env:List Val} {f:SV → SV} {g:V → V} (hf:∀ x v,InstV env x v → InstV env (f x) (g v)) : ∀ {xs:List (κ × SV)} {vs:List (κ × V)},InstK env xs vs → InstK env (xs.map fun y=>(y.1,f y.2)) (vs.map fun y=>(y.1,g y.2))
 | [],vs,h=>by simp only [InstK] at h; subst h; simp [InstK]
 | (k,y) :: xs,vs,h=>by
  simp only [InstK] at h
  obtain ⟨u,vs',h1,h2,h3⟩:=h
  subst h1
  simp only [List.map_cons,InstK]
  exact ⟨_,_,rfl,hf _ _ h2,h3.map hf⟩
theorem InstK.any {κ:Type} {env:List Val} {f:SV → Bool} {g:V → Bool} (hf:∀ x v,InstV env x v → f x=false → g v=false) : ∀ {xs:List (κ × SV)} {vs:List (κ × V)},InstK env xs vs → xs.any (fun y=>f y.2)=false → vs.any (fun y=>g y.2)=false
 | [],vs,h,_=>by simp only [InstK] at h; subst h; rfl
 | (k,y) :: xs,vs,h,ha=>by
  simp only [InstK] at h
  obtain ⟨u,vs',h1,h2,h3⟩:=h
  subst h1
  simp only [List.any_cons,Bool.or_eq_false_iff] at ha ⊢
  exact ⟨hf _ _ h2 ha.1,h3.any hf ha.2⟩
structure SFr where
 rd:Option Name
 n:Nat
 ts:List (Nat × SV)
structure Sy where
 g:List Ty
 rd:Option Name
 n:Nat
 ts:List (Nat × SV)
 sv:List SFr
 bx:List (Name × SV)
 lp:List (Name × Lp)
 ow:List Name
 vc:List (Name × Ty × E)
def InstC (env:List Val) : List (Name × Ty × E) → List (Name × Nat × List D) → Prop
 | [],l=>l=[]
 | (n,t,x) :: r,l=>∃ (a:List t.den) (l' : List (Name × Nat × List D)),l=(n,t.size,a.map (encD t)) :: l' ∧ x.val env=some ⟨.sl t,a⟩ ∧ InstC env r l'
theorem InstC.app {env:List Val} (l:List Val) : ∀ {xs:List (Name × Ty × E)} {vs:List (Name × Nat × List D)},InstC env xs vs → InstC (env ++ l) xs vs
 | [],vs,h=>h
 | (n,t,x) :: xs,vs,h=>by obtain ⟨a,l',h1,h2,h3⟩:=h; exact ⟨a,l',h1,E.val_app l h2,h3.app l⟩
theorem InstC.look {env:List Val} {n:Name}:∀ {xs:List (Name × Ty × E)} {vs:List (Name × Nat × List D)},InstC env xs vs → (∀ {t x},lookN n xs=some (t,x) → ∃ a:List t.den,x.val env=some ⟨.sl t,a⟩ ∧ lookN n vs=some (t.size,a.map (encD t))) ∧ (lookN n xs=none → lookN n vs=none)
 | [],vs,h=>by simp only [InstC] at h; subst h; simp [lookN]
 | (k,t,x) :: xs,vs,h=>by
  obtain ⟨a,l',rfl,h2,h3⟩:=h
  simp only [lookN]
  split
  ·exact ⟨fun e=>by cases e; exact ⟨a,h2,rfl⟩,fun e=>by cases e⟩
  ·exact h3.look
theorem InstC.set {env:List Val} {n:Name} {t:Ty} {x:E} {a:List t.den} (hv:x.val env=some ⟨.sl t,a⟩) : ∀ {xs:List (Name × Ty × E)} {vs:List (Name × Nat × List D)},InstC env xs vs → InstC env (Ab.setN n (t,x) xs) (Ab.setN n (t.size,a.map (encD t)) vs)
 | [],vs,h=>by simp only [InstC] at h; subst h; simp [Ab.setN,InstC]
 | (k,u,y) :: xs,vs,h=>by
  obtain ⟨b,l',rfl,h2,h3⟩:=h
  simp only [Ab.setN]
  split
  ·exact ⟨a,l',rfl,hv,h3⟩
  ·exact ⟨b,_,rfl,h2,h3.set hv⟩
theorem InstC.filter {env:List Val} {q:Name → Bool}:∀ {xs:List (Name × Ty × E)} {vs:List (Name × Nat × List D)},InstC env xs vs → InstC env (xs.filter fun x=>q x.1) (vs.filter fun x=>q x.1)
 | [],vs,h=>by simp only [InstC] at h; subst h; simp [InstC]
 | (k,t,x) :: xs,vs,h=>by
  obtain ⟨a,l',rfl,h2,h3⟩:=h
  simp only [List.filter_cons]
  split
  ·exact ⟨a,_,rfl,h2,h3.filter⟩
  ·exact h3.filter
def InstF (env:List Val) : List SFr → List Fr → Prop
 | [],l=>l=[]
 | f :: fs,l=>∃ g l',l=g :: l' ∧ g.rd=f.rd ∧ g.n=f.n ∧ InstK env f.ts g.ts ∧ InstF env fs l'
structure Inst (env:List Val) (y:Sy) (s:Sa) : Prop where
 g:env.map (·.1)=y.g
 rd:s.rd=y.rd
 n:s.n=y.n
 ts:InstK env y.ts s.ts
 sv:InstF env y.sv s.sv
 bx:InstK env y.bx s.bx
 lp:s.lp=y.lp
 ow:s.ow=y.ow
 vc:InstC env y.vc s.vc
theorem InstF.app {env:List Val} (l:List Val) : ∀ {xs:List SFr} {vs:List Fr},InstF env xs vs → InstF (env ++ l) xs vs
 | [],vs,h=>h
 | f :: xs,vs,h=>by simp only [InstF] at h ⊢; obtain ⟨v,vs',h1,h2,h3,h4,h5⟩:=h; exact ⟨v,vs',h1,h2,h3,h4.app l,h5.app l⟩
theorem InstF.len {env:List Val}:∀ {xs:List SFr} {vs:List Fr},InstF env xs vs → vs.length=xs.length
 | [],vs,h=>by simp only [InstF] at h; simp [h]
 | f :: xs,vs,h=>by simp only [InstF] at h; obtain ⟨v,vs',h1,h2,h3,h4,h5⟩:=h; simp [h1,h5.len]
def Sy.more (y:Sy) (ts:List Ty) : Sy:={ y with g:=y.g ++ ts }
theorem Inst.app {env:List Val} {y:Sy} {s:Sa} (h:Inst env y s) (l:List Val) : Inst (env ++ l) (y.more (l.map (·.1))) s :=
 ⟨by simp [Sy.more,h.g],h.rd,h.n,h.ts.app l,h.sv.app l,h.bx.app l,h.lp,h.ow,h.vc.app l⟩
theorem Inst.snoc {env:List Val} {y:Sy} {s:Sa} (h:Inst env y s) (v:Val) : Inst (env ++ [v]) (y.more [v.1]) s:=h.app [v]
theorem Inst.len {env:List Val} {y:Sy} {s:Sa} (h:Inst env y s) : env.length=y.g.length:=by rw [← h.g,List.length_map]
end Go.Tx
