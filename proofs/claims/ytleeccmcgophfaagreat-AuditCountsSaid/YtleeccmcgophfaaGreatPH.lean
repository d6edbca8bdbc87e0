import Derived.Test.YtleeccmcgophfaaGreatPE
import Derived.RangeFuncNested
import Derived.Test.YtleeccmcgophfaaGreatPG
set_option linter.all false
namespace Go.Ab
open Go Go.RowKit
variable {P:Program} {w:World} {n:Nat} {Mo:Cells} {m:Mp} {s:Sa} {as:List Act} {p:Name}
theorem PureOK.of_bodyT {f:FuncId} {fn:Func} {c:Code} {ds rs:List D} (q:Name) (hf:P.funcs[f]? = some fn) (hb:fn.body=some c) (hle:ds.length≤fn.ntmps)
  (h:(∀ i (hi:i<ds.length),ds[i].wf)→TC P q c (s0 fn.ntmps ds) (Out P fn.results.toList rs)):PureOK P f ds rs:=by
 intro M w n vs hlt hs hr
 refine callsIn_of_wp_marks hf hb trivial ?_ rfl
 have h0:=rel_start (m:=⟨fun _=>0,fun _=>(0,0,0),fun _=>0,fun _=>(none,0,0)⟩) fn.ntmps hlt hs hr hle
 have h1:=h (fun i hi=>(hr i hi).wf) M _ _ _ w n h0
 refine wpIn_mono h1 ?_
 rintro e a' w' ⟨ex,m',s',he,⟨hex,hres⟩,hR',hst,_,hmk⟩
 have hB:=hmk.nil
 have hfin:Rel M m' s' [a'] w' → LeavesInM (Wd none) n P fn a'.tmps (fun e w'=>∃ c,e = .returned c∧Below w.heap.size w w' ∧ ∀ m,RepV w' M m (mkRes (rs.map .d)) c) a'.defers .returning w':=fun hR'=>by
  refine leaves w.heap.size hres a'.defers a' w' rfl hR' hB (fun vs c w2 hk hR2 hv hb=>?_)
  have hst2:=hst.after hb
  refine ⟨c,rfl,⟨hst2.keeps.os,hst2.keeps.tape,hst2.keeps.output,hst2.keeps.size,fun b hb'=>hst2.keeps.blk b hb' (fun o ho=>?_) (fun hl=>?_)⟩,mkRes_toD (hv.mono (fun b o x hx hm=>⟨hx,fun ht=>hm (.inl ht)⟩) (fun _ _=>rfl) (fun _ _ _ _ h=>h) (fun _ _=>rfl)) hk⟩
  ·rcases ho with ⟨nm,c,hn,_⟩ | ⟨i,hi,_⟩
   ·simp [s0,lookN] at hn
   ·simp [s0] at hi
  ·obtain ⟨l,q,hl,_⟩:=hl
   simp [s0,lookN] at hl
 cases e with
 | normal=>cases he;exact hfin hR'
 | ret=>cases he;exact hfin hR'
 | exit i=>cases he;exact hex.elim
 | goto l=>cases he
 | panic c=>obtain ⟨t,v,rfl,rfl⟩:=exOf_panic he;exact hex.elim
 | outgrown=>cases he
def BeginT (P:Program) (p:Name) (l:Name) (q:Lp) (s:Sa) (k:V→Sa→Prop) (e:Ex) (s1:Sa):Prop :=
 match e with
 | .norm=>match lookN l s1.lp with
  | some q1=>q1.pending=none∧q1.body=q.body∧TC P p q.body (setLp s1 l { q1 with pending:=some none }) (EndK l s k)
  | none=>False
 | _=>False
theorem TYld_enterT {l:Name} {q:Lp} {f:Fr} {args:List V} {k:V→Sa→Prop} (qn:Name) (hnh:isH l=false) (hl:lookN l s.lp=some q) (hf:(frames s).reverse[q.depth]? = some f)
  (hps:∀ t∈q.ps.toList,t<f.n) (hlen:args.length=q.ps.size)
  (h:TC P qn q.assign (s.round l f q.ps.toList args) (BeginT P qn l q s k)):TYld P p l args s k:=by
 intro Mo m as w n vs r hR hargs
 obtain ⟨rec,a,hx⟩:=hR.lps l q hl
 refine ⟨rec,hx.heap,by rw [hargs.1,hx.ps,hlen],?_⟩
 refine roundIn_of_wpIn trivial ?_
 have hz:(rec.params.zip vs).foldl (fun tmps (x:Tmp×Value)=>tmps.setIfInBounds x.1 x.2) rec.tmps=(q.ps.toList.zip vs.toList).foldl (fun tmps x=>tmps.setIfInBounds x.1 x.2) rec.tmps:=by
  rw [← Array.foldl_toList,Array.toList_zip,hx.ps]
 have h0:=hR.round hl hx hf hps hlen hargs
 have h1:=h Mo m _ as w n h0
 have hrd:rdOf m (s.round l f q.ps.toList args)=some (m.lp l):=by simp only [rdOf,Sa.round,rdN_some hnh];rfl
 rw [hrd] at h1
 have hasg:rec.assign=q.assign:=hx.assign
 have hbod:rec.body=q.body:=hx.body
 rw [hasg,hbod]
 have e0:((rec.params.zip vs).foldl (fun tmps (t,a)=>tmps.setIfInBounds t a) rec.tmps)=(q.ps.toList.zip vs.toList).foldl (fun tmps x=>tmps.setIfInBounds x.1 x.2) rec.tmps:=hz
 rw [e0]
 refine wpIn_mono h1 ?_
 rintro e a1 w1 ⟨ex,m1,s1,he,hk,hR1,hst1,hrd1,_⟩
 cases ex with
 | exit i=>exact hk.elim
 | ret=>exact hk.elim
 | thr t=>exact hk.elim
 | norm =>
  have en:e = .normal:=exOf_norm he
  subst en
  simp only [BeginT] at hk
  split at hk
  ·rename_i q1 hq1
   obtain ⟨hp1,hb1,hk⟩:=hk
   have hs1rd:s1.rd=some l:=hst1.rd
   have hm1:m1.lp l=m.lp l:=by
    have:rdOf m1 s1=some (m.lp l):=hrd1.trans hrd
    simp only [rdOf,hs1rd,rdN_some hnh,Option.map_some,Option.some.injEq] at this;exact this
   obtain ⟨rc1,b1,hx1⟩:=hR1.lps l q1 hq1
   have hstat:=hx1.stat
   rw [hp1] at hstat
   refine ⟨_,by rw [← hm1];exact run_beginRound hx1.heap hstat.1,?_⟩
   have hR2:=hR1.setLoop (q':={ q1 with pending:=some none }) (r':={ rc1 with state:=.busy }) hq1 hx1.heap ⟨rfl,rfl,rfl,rfl⟩ ⟨rfl,rfl,rfl,rfl⟩ rfl
   have hlt1:m1.lp l<w1.heap.size:=(Array.getElem?_eq_some_iff.1 hx1.heap).1
   have hst2:=hst1.trans (Step.setLoop (q':={ q1 with pending:=some none }) (r':={ rc1 with state:=.busy }) hq1 hlt1)
   have h2:=hk Mo m1 a1 as _ n hR2
   have hrd2:rdOf m1 (setLp s1 l { q1 with pending:=some none })=some (m.lp l):=hrd1.trans hrd
   rw [hrd2] at h2
   rw [← hm1]
   rw [← hm1] at h2
   refine wpIn_mono h2 ?_
   rintro e2 a2 w2 ⟨ex2,m2,s2,he2,hk2,hR3,hst3,hrd3,_⟩
   obtain ⟨hnt,hsvl,hlpn,hk2⟩:=hk2
   split at hk2
   ·rename_i q2 hq2
    obtain ⟨rc2,b2,hx2⟩:=hR3.lps l q2 hq2
    have hs2rd:s2.rd=some l:=hst3.rd.trans hs1rd
    have hm2:m2.lp l=m1.lp l:=by
     rw [hrd2] at hrd3
     simp only [rdOf,hs2rd,rdN_some hnh,Option.map_some,Option.some.injEq] at hrd3;rw [hrd3,hm1]
    have hlt2:m2.lp l<w2.heap.size:=(Array.getElem?_eq_some_iff.1 hx2.heap).1
    have hstt:=hst2.trans hst3
    have fin:∀ (j:Option Code) (q3:Lp),jmp ex2=(match j with | none=>none | some c=>some (some c))→q3={ q2 with pending:=jmp ex2 }→goesOn ex2=j.isNone →
      ∃ v w',(Instr.endRound (m1.lp l) j).run P w2 = .ok v w' ∧ CallPost Mo m s as w k (.returned v) w':=by
     intro j q3 hj hq3 hg
     refine ⟨_,_,by rw [← hm2];exact run_endRound j hx2.heap,?_⟩
     have hR4:=hR3.setLoop (q':=q3) (r':={ rc2 with state:=if j.isNone then .ready else .done,pending:=j }) hq2 hx2.heap (by rw [hq3];exact ⟨rfl,rfl,rfl,rfl⟩) ⟨rfl,rfl,rfl,rfl⟩ (by
      rw [hq3];simp only [hj]
      cases j with
      | none=>exact ⟨rfl,rfl⟩
      | some c=>exact ⟨rfl,rfl⟩)
     have hst4:=hstt.trans (Step.setLoop (q':=q3) (r':={ rc2 with state:=if j.isNone then .ready else .done,pending:=j }) hq2 hlt2)
     have hne:(setLp s2 l q3).sv≠[]:=fun e=>by simp only [setLp] at e;rw [e] at hsvl;simp at hsvl
     have hlp3:lpD (setLp s2 l q3).lp=lpD s.lp:=by rw [← hlpn];exact lpD_setN l q2 q3 (by rw [hq3]) _ hq2
     have hdep:∀ nm x,lookN nm (setLp s2 l q3).lp=some x→x.depth+1<as.length:=by
      intro nm x hx
      obtain ⟨q0,e1,e2⟩:=lpD_look hlp3 hx
      rw [← e2];exact hR.dep nm q0 e1
     have hpop:=hR4.pop hne hdep
     obtain ⟨g,gs,hsv⟩:=List.exists_cons_of_ne_nil hne
     have hsvrd:=hst4.svrd
     rw [hsv] at hsvrd
     simp only [Sa.round,List.map_cons,List.cons.injEq] at hsvrd
     have hbx:(setLp s2 l q3).pop.bx=(setLp s2 l q3).bx∧(setLp s2 l q3).pop.ow=(setLp s2 l q3).ow∧(setLp s2 l q3).pop.lp=(setLp s2 l q3).lp∧(setLp s2 l q3).pop.rd=s.rd∧(setLp s2 l q3).pop.sv.map (·.rd)=s.sv.map (·.rd):=by
      simp only [Sa.pop,hsv];exact ⟨trivial,trivial,trivial,hsvrd.1,hsvrd.2⟩
     have hlpm:∀ nm,some nm∈rds s→MpEq nm m2 m:=fun nm hnm=>hst4.lpm nm (by
      simp only [rds,Sa.round,List.map_cons,List.mem_cons] at hnm ⊢
      exact .inr hnm)
     refine ⟨.bool j.isNone,.d (.b (goesOn ex2)),m2,(setLp s2 l q3).pop,rfl,by rw [hq3];exact hk2,hpop,by rw [hg];exact .d (.v trivial),
      ⟨hst4.keeps,by rw [hbx.1,hbx.2.1];exact hst4.mt,by rw [hbx.2.2.1];exact hst4.lp,hbx.2.2.2.1,hbx.2.2.2.2,hlpm⟩,?_⟩
     simp only [rdOf,hbx.2.2.2.1]
     exact rdN_map fun l hl=>(hlpm l (by simp [rds,hl])).lp
    cases e2 with
    | normal=>cases he2;exact fin none _ rfl rfl rfl
    | ret=>cases he2;exact fin (some .ret) _ rfl rfl rfl
    | exit i=>cases he2;exact fin (some (.exit i)) _ rfl rfl rfl
    | goto l=>cases he2
    | panic c=>obtain ⟨t,v,rfl,rfl⟩:=exOf_panic he2;exact hnt.elim
    | outgrown=>cases he2
   ·exact hk2.elim
  ·exact hk.elim
theorem TC_rangeFuncT {g:Operand} {ps:Array Tmp} {assign body:Code} {gf:FuncId} {cap:List V} {fn:Func} {c:Code} {Q:Ex→Sa→Prop} (l qn:Name) (hrd:s.rd=none) (hrs:some l ∉ rds s) (hl:lookN l s.lp=none) (hy:s.ylds l=false)
  (hg:s.get g = .fn gf cap) (hycap:V.yldsL l cap=false) (hcal:callable P gf=true) (hf:P.funcs[gf]? = some fn) (hb:fn.body=some c) (hle:(V.yld l::cap).length≤fn.ntmps)
  (h:TC P qn c (s.loopIn l fn.ntmps (.yld l::cap) ⟨s.sv.length,ps,assign,body,none⟩) (LeftLoop P qn fn.results.toList l s Q)):TC P p (.rangeFunc g ps assign body) s Q:=by
 intro Mo m a sv w n hR
 have hrd0:rdOf m s=none:=by simp [rdOf,hrd,rdN]
 rw [hrd0]
 refine wpIn_rangeFunc (fun fnid _=>?_)
 have hgv:=hR.operand g
 rw [hg] at hgv
 obtain ⟨cs,e,hs,hrep⟩:=hgv.fn_inv
 rw [fnV_lt (callable_lt hcal)] at e
 have he:=run_enterLoop_outer (P:=P) (w:=w) fnid a.tmps ps assign body
 generalize hw1:((w.alloc (.deferred (some []))).alloc (.loop { state:=.ready,pending:=none,fn:=fnid,tmps:=a.tmps,params:=ps,assign,body,defers:=w.heap.size }))=w1 at he
 have hbl:Below w.heap.size w w1:=by rw [← hw1];exact ((Below.refl _ _).alloc (Nat.le_refl _) _).alloc (by simp) _
 have hB:w1.heap[w.heap.size]? = some (.deferred (some [])):=by
  rw [← hw1]
  have h1:=World.alloc_heap_new w (.deferred (some []))
  exact heap_below (below_alloc' _ _) h1
 have hN:w1.heap[w.heap.size+1]? = some (.loop { state:=.ready,pending:=none,fn:=fnid,tmps:=a.tmps,params:=ps,assign,body,defers:=w.heap.size }):=by
  rw [← hw1]
  have h1:=World.alloc_heap_new (w.alloc (.deferred (some []))) (.loop { state:=.ready,pending:=none,fn:=fnid,tmps:=a.tmps,params:=ps,assign,body,defers:=w.heap.size })
  simpa using h1
 refine ⟨w.heap.size+1,[{ target:=.collected w.heap.size,args:=#[] }],w1,{ target:=.fn (.func gf) cs,args:=#[.func (.yield (w.heap.size+1)) #[] #[]] },w1,gf,#[.func (.yield (w.heap.size+1)) #[] #[]]++cs,w1,he,?_,fun _ _=>trivial,?_,depth_none,?_⟩
 ·have e1:a.eval (.const (.func (.yield (w.heap.size+1)) #[] #[])) = .func (.yield (w.heap.size+1)) #[] #[]:=rfl
  simp [resolve,e,Deferred.ofValue,e1]
 ·simp only [invoke];exact run_callFunc hcal _
 have hyall:=Sa.ylds_all hy
 have hargs:ArgsOK w1 (Tot Mo s.bx s.ow m) (m.setLp l (w.heap.size+1)) (.yld l::cap) (#[.func (.yield (w.heap.size+1)) #[] #[]]++cs):=by
  refine ⟨by simp [hs];omega,fun i hi=>?_⟩
  cases i with
  | zero =>
   have:(m.setLp l (w.heap.size+1)).lp l=w.heap.size+1:=by simp [Mp.setLp]
   simp only [List.getElem_cons_zero]
   have h0:=@RepV.yld w1 (Tot Mo s.bx s.ow m) (m.setLp l (w.heap.size+1)) l
   rw [this] at h0
   have e2:(#[Value.func (.yield (w.heap.size+1)) #[] #[]]++cs).getD 0 undef=Value.func (.yield (w.heap.size+1)) #[] #[]:=by
    rw [Array.getD_eq_getD_getElem?,Array.getElem?_append_left (by simp)];rfl
   rw [e2];exact h0
  | succ i =>
   have hi' : i<cap.length:=by simpa using hi
   have h0:=(hrep i hi').newLp (w':=w1) (l:=l) (N:=w.heap.size+1) (fun hx=>V.yldsL_lps l cap hycap (mem_lpsL hi' hx)) hbl
   simp only [List.getElem_cons_succ]
   rw [Array.getD_eq_getD_getElem?] at h0 ⊢
   rw [Array.getElem?_append_right (by simp)]
   simpa using h0
 have h0:=hR.loopIn (ps:=ps) (assign:=assign) (body:=body) (nt:=fn.ntmps) hyall hl hbl hB (Nat.le_refl _) hN (by omega) ⟨rfl,rfl,rfl,rfl,rfl,rfl⟩ hargs hle
 refine callsIn_of_wp_marks hf hb trivial ?_ rfl
 have h1:=h Mo (m.setLp l (w.heap.size+1)) _ _ w1 (n - 1) h0
 have hrd1:rdOf (m.setLp l (w.heap.size+1)) (s.loopIn l fn.ntmps (.yld l::cap) ⟨s.sv.length,ps,assign,body,none⟩)=none:=rfl
 rw [hrd1] at h1
 refine wpIn_mono h1 ?_
 rintro e a' w' ⟨ex,m',s',hex,⟨hexx,hsvl,hlpn,hres⟩,hR',hst,_,hmk⟩
 have hmarks:=hmk.nil
 have hfin:Rel Mo m' s' (a' :: { a with defers:={ target:=.collected w.heap.size,args:=#[] }::a.defers }::sv) w' → LeavesInM (Wd none) (n - 1) P fn a'.tmps (rangePost (Wd none) n P (w.heap.size+1) (CodePost Mo m s a.defers sv w Q) { a with defers:=[{ target:=.collected w.heap.size,args:=#[] }]++a.defers }) a'.defers .returning w':=fun hR'=>by
  refine leaves w1.heap.size hres a'.defers a' w' rfl hR' hmarks (fun vs cc w2 hk hR2 hv hb2=>?_)
  split at hk
  ·rename_i l0 q tl hlp
   have hl0:l0=l∧q.depth=s.sv.length∧lpD tl=lpD s.lp:=by
    rw [hlp] at hlpn
    simp only [lpD,List.map_cons,List.cons.injEq,Prod.mk.injEq] at hlpn
    exact ⟨hlpn.1.1,hlpn.1.2,hlpn.2⟩
   obtain ⟨rfl,hqd,htl⟩:=hl0
   have hlook:lookN l0 s'.lp=some q:=by rw [hlp];simp [lookN]
   have hmlp:m'.lp l0=w.heap.size+1:=by
    have:=(hst.lpm l0 (by simp [rds,Sa.loopIn])).lp
    rw [this];simp [Mp.setLp]
   obtain ⟨rc,b,hx⟩:=hR2.lps l0 q hlook
   have hnb:rc.state ≠ .busy:=by
    have:=hx.stat
    split at this
    ·rw [this.1];decide
    ·rw [this.1];decide
    ·rename_i hp;rw [hp] at hk;exact hk.elim
   have hend:=run_endLoop (P:=P) hx.heap hnb
   have hR3:=hR2.dropLoop (r':={ rc with state:=.exhausted }) hlp (lpD_none htl.symm hl) hx.heap
   have hne:({ s' with lp:=tl }:Sa).sv≠[]:=fun e=>by simp only at e;rw [e] at hsvl;simp at hsvl
   have hdep:∀ nm x,lookN nm ({ s' with lp:=tl }:Sa).lp=some x→x.depth+1<({ a with defers:={ target:=.collected w.heap.size,args:=#[] }::a.defers }::sv).length:=by
    intro nm x hx
    obtain ⟨q0,e1,e2⟩:=lpD_look htl hx
    rw [← e2];exact hR.dep nm q0 e1
   have hpop:=(hR3.pop hne hdep).setRd none
   obtain ⟨g,gs,hsv⟩:=List.exists_cons_of_ne_nil hne
   simp only at hsv
   have hout:({ ({ s' with lp:=tl }:Sa).pop with rd:=none }:Sa)=s'.loopOut:=by
    simp [Sa.pop,Sa.loopOut,hsv,hlp]
   rw [hout] at hpop
   have hsvrd:=hst.svrd
   rw [hsv] at hsvrd
   simp only [Sa.loopIn,List.map_cons,List.cons.injEq] at hsvrd
   have hbx:s'.loopOut.bx=s'.bx∧s'.loopOut.ow=s'.ow∧s'.loopOut.lp=tl∧s'.loopOut.rd=none∧s'.loopOut.sv.map (·.rd)=s.sv.map (·.rd):=by
    simp only [Sa.loopOut,hsv,hlp,List.tail_cons];exact ⟨trivial,trivial,trivial,trivial,hsvrd.2⟩
   have hstep1:Step m s w (m.setLp l0 (w.heap.size+1)) { s with lp:=(l0,⟨s.sv.length,ps,assign,body,none⟩)::s.lp } w1:=by
    refine ⟨.of_below hbl,fun b o _ hm=>hm,?_,rfl,rfl,?_⟩
    ·rintro b hb ⟨nm,x,hx,rfl⟩
     simp only [lookN] at hx
     split at hx
     ·rename_i e;subst e
      simp only [Mp.setLp,if_true] at hb
      omega
     ·rename_i e
      refine ⟨nm,x,hx,?_⟩
      simp only [Mp.setLp]
      rw [if_neg (Ne.symm e)]
    ·intro nm hnm
     have:nm≠l0:=fun e=>hrs (e ▸ hnm)
     exact ⟨by simp [Mp.setLp,this],fun _ _=>rfl⟩
   have hkp:Keeps w1 w2 (Mut s.bx s.ow (m.setLp l0 (w.heap.size+1))) (LpB ((l0,⟨s.sv.length,ps,assign,body,none⟩)::s.lp) (m.setLp l0 (w.heap.size+1))):=(hst.after hb2).keeps
   have hstep2:Step (m.setLp l0 (w.heap.size+1)) { s with lp:=(l0,⟨s.sv.length,ps,assign,body,none⟩)::s.lp } w1 m' s'.loopOut w2:=by
    refine ⟨hkp,?_,?_,?_,?_,?_⟩
    ·rw [hbx.1,hbx.2.1];exact hst.mt
    ·rintro b hb ⟨nm,x,hx,rfl⟩
     rw [hbx.2.2.1] at hx
     refine hst.lp _ hb ⟨nm,x,?_,rfl⟩
     rw [hlp];simp only [lookN]
     have:nm≠l0:=fun e=>by
      rw [e,lpD_none htl.symm hl] at hx;cases hx
     rw [if_neg (Ne.symm this)];exact hx
    ·rw [hbx.2.2.2.1,← hrd]
    ·rw [hbx.2.2.2.2]
    ·intro nm hnm
     refine hst.lpm nm ?_
     simp only [rds,Sa.loopIn,List.map_cons,List.mem_cons] at hnm ⊢
     rcases hnm with h | h
     ·rw [hrd] at h;cases h
     ·exact .inr (.inr h)
   have hstep:=(hstep1.trans hstep2).after (below_putObj (B:=w.heap.size) (r:=m'.lp l0) (o:=.loop { rc with state:=.exhausted }) (by rw [hmlp];omega))
   have hrdo:rdOf m' s'.loopOut=rdOf m s:=by simp [rdOf,hbx.2.2.2.1,hrd,rdN]
   have hnm:NewMarks a.defers w ({ target:=.collected w.heap.size,args:=#[] }::a.defers):=⟨[_],rfl,fun d hd=>⟨_,by simpa using hd,Nat.le_refl _⟩⟩
   generalize w2.putObj (m'.lp l0) (.loop { rc with state:=.exhausted })=w4 at hend hpop hstep
   refine ⟨rc.pending,w4,by rw [← hmlp];exact hend,?_⟩
   have hstat:=hx.stat
   split at hk
   ·rename_i hp
    rw [hp] at hstat
    rw [hstat.2]
    exact ⟨.norm,m',s'.loopOut,rfl,hk,hpop,hstep,hrdo,hnm⟩
   ·exact hk.elim
   ·rename_i j hp
    rw [hp] at hstat
    rw [hstat.2]
    have h9:=ev_sound hk Mo m' _ sv _ n hpop
    have hrd9:rdOf m' s'.loopOut=none:=by rw [hrdo,hrd0]
    rw [hrd9] at h9
    exact wpIn_mono h9 (fun e a2 w2 hp=>CodePost.step hstep hrdo hnm hp)
  ·exact hk.elim
 cases e with
 | normal=>cases hex;exact hfin hR'
 | ret=>cases hex;exact hfin hR'
 | exit i=>cases hex;exact hexx.elim
 | goto l=>cases hex
 | panic c=>obtain ⟨t,v,rfl,rfl⟩:=exOf_panic hex;exact hexx.elim
 | outgrown=>cases hex
theorem TC_loopU {ι:Type} (S:ι→Sa) (μ:ι→Nat) {b:Code} {Q:Ex→Sa→Prop}
  (h:∀ i,TC P p b (S i) (fun e s'=>match e with | .norm=>∃ j,Wk s' (S j)∧μ j<μ i | e=>Q e s')) (i:ι):TC P p (.loop b) (S i) Q:=by
 intro Mo m a sv w n hR
 refine wpIn_loop_ix (fun j a' w'=>∃ m',Rel Mo m' (S j) (a' :: sv) w' ∧ Step m (S i) w m' (S j) w' ∧ rdOf m' (S j)=rdOf m (S i)∧NewMarks a.defers w a'.defers) μ ?_ i a w ⟨m,hR,Step.refl _ _ _,rfl,.refl⟩
 rintro j a1 w1 ⟨m1,hR1,hst1,hrd1,hmk1⟩
 have h1:=(h j) Mo m1 a1 sv w1 n hR1
 rw [hrd1] at h1
 refine wpIn_mono h1 ?_
 rintro e a2 w2 ⟨ex,m2,s2,he,hq,hR2,hst2,hrd2,hmk2⟩
 have hmk:=hmk1.trans hst1.keeps.size hmk2
 cases e with
 | normal =>
  cases he
  obtain ⟨j',hw,hlt⟩:=hq
  obtain ⟨m3,hR3,hst3,hrd3⟩:=hw Mo m2 _ w2 hR2
  exact ⟨j',⟨m3,hR3,(hst1.trans hst2).trans hst3,(hrd3.trans hrd2).trans hrd1,hmk⟩,hlt⟩
 | exit i=>cases he;exact ⟨_,m2,s2,rfl,hq,hR2,hst1.trans hst2,hrd2.trans hrd1,hmk⟩
 | ret=>cases he;exact ⟨_,m2,s2,rfl,hq,hR2,hst1.trans hst2,hrd2.trans hrd1,hmk⟩
 | goto l=>cases he
 | panic c=>obtain ⟨t,v,rfl,rfl⟩:=exOf_panic he;exact ⟨_,m2,s2,rfl,hq,hR2,hst1.trans hst2,hrd2.trans hrd1,hmk⟩
 | outgrown=>cases he
end Go.Ab
namespace Go.Ab
open Go Go.RowKit
variable {P:Program} {w:World} {n:Nat} {Mo:Cells} {m:Mp} {s:Sa} {as:List Act} {p:Name}
def Sa.loopOutR (s:Sa) (r:Option Name):Sa:=match s.sv with
 | f::fs=>{ rd:=r,n:=f.n,ts:=f.ts,sv:=fs,bx:=s.bx,lp:=s.lp.tail,ow:=s.ow,vc:=s.vc }
 | []=>s
def LeftLoopN (P:Program) (p:Name) (rs:List ResultVar) (l:Name) (s0:Sa) (Q:Ex→Sa→Prop) (e:Ex) (s:Sa):Prop :=
 (match e with | .exit _=>False | .thr _=>False | _=>True)∧s.sv.length=s0.sv.length+1∧lpD s.lp=(l,s0.sv.length)::lpD s0.lp∧resK P s rs fun _=>match s.lp with
  | (_,q)::_=>match q.pending with
   | none=>Q .norm (s.loopOutR s0.rd)
   | some none=>False
   | some (some c)=>ev P (semsT P) p c (s.loopOutR s0.rd) Q
  | []=>False
theorem Rel.loopInN {a:Act} {sv:List Act} {w1:World} {l:Name} {args:List V} {vs:Array Value} {nt:Nat} {ps:Array Tmp} {assign body:Code} {r:Loop} (h:Rel Mo m s (a::sv) w) (hy:AllV (fun v=>l ∉ v.lps) s) (hn:lookN l s.lp=none)
  (hbl:Below w.heap.size w w1) {N:Nat} (hN:w1.heap[N]? = some (.loop r)) (hNs:w.heap.size≤N)
  (hr:r.params=ps∧r.assign=assign∧r.body=body∧r.tmps=a.tmps∧r.state = .ready∧r.pending=none)
  (ha:ArgsOK w1 (Tot Mo s.bx s.ow m) (m.setLp l N) args vs) (hle:args.length≤nt) :
  Rel Mo (m.setLp l N) (s.loopIn l nt args ⟨s.sv.length,ps,assign,body,none⟩)
   ({ tmps:=vs++Array.replicate (nt - vs.size) undef,defers:=[] }::a::sv) w1:=by
 have h1:=h.newLp (N:=N) hy hn hbl
 have h2:=(h1.setRd (some l)).push (args:=args) (vs:=vs) nt ha hle
 refine h2.addLoop (l:=l) (q:=⟨s.sv.length,ps,assign,body,none⟩) (r:=r) (a:=a) hn ?_ ?_ ?_
 ·refine ⟨by simpa [Mp.setLp] using hN,hr.1,hr.2.1,hr.2.2.1,?_,hr.2.2.2.1,hr.2.2.2.2⟩
  have hl:=h.len
  simp only [List.length_cons,Nat.add_right_cancel_iff] at hl
  have e:∀ (x y:Act),(x::y::sv).reverse[s.sv.length]? = some y:=fun x y=>by
   rw [← hl]
   simp
  exact e _ _
 ·have hl:=h.len
  simp only [List.length_cons] at hl ⊢
  omega
 ·intro l' p' hl
  have:l' ≠ l:=fun e=>by rw [e] at hl;exact absurd hl (by simp [Sa.push,hn])
  obtain ⟨rc,b,hx⟩:=h.lps l' p' hl
  have:=(Array.getElem?_eq_some_iff.1 hx.heap).1
  simp only [Mp.setLp,if_true]
  rw [if_neg (by assumption)]
  omega
theorem TC_rangeFuncN {g:Operand} {ps:Array Tmp} {assign body:Code} {gf:FuncId} {cap:List V} {fn:Func} {c:Code} {Q:Ex→Sa→Prop} (l qn:Name) {l0:Name} {q0:Lp} (hrd:s.rd=some l0) (hnh:isH l0=false) (hl0:lookN l0 s.lp=some q0) (hsv0:some l0∈s.sv.map (·.rd)) (hrs:some l ∉ rds s) (hl:lookN l s.lp=none) (hy:s.ylds l=false)
  (hg:s.get g = .fn gf cap) (hycap:V.yldsL l cap=false) (hcal:callable P gf=true) (hf:P.funcs[gf]? = some fn) (hb:fn.body=some c) (hle:(V.yld l::cap).length≤fn.ntmps)
  (h:TC P qn c (s.loopIn l fn.ntmps (.yld l::cap) ⟨s.sv.length,ps,assign,body,none⟩) (LeftLoopN P qn fn.results.toList l s Q)):TC P p (.rangeFunc g ps assign body) s Q:=by
 intro Mo m a sv w n hR
 have hrd0:rdOf m s=some (m.lp l0):=by simp [rdOf,hrd,rdN_some hnh]
 rw [hrd0]
 obtain ⟨r0,b0,hx0⟩:=hR.lps l0 q0 hl0
 refine wpIn_rangeFunc (fun fnid _=>?_)
 have hgv:=hR.operand g
 rw [hg] at hgv
 obtain ⟨cs,e,hs,hrep⟩:=hgv.fn_inv
 rw [fnV_lt (callable_lt hcal)] at e
 have he:=run_enterLoop_inner (P:=P) (w:=w) hx0.heap fnid a.tmps ps assign body
 generalize hw1:(w.alloc (.loop { state:=.ready,pending:=none,fn:=fnid,tmps:=a.tmps,params:=ps,assign,body,defers:=r0.defers }))=w1 at he
 have hbl:Below w.heap.size w w1:=by rw [← hw1];exact (Below.refl _ _).alloc (Nat.le_refl _) _
 have hN:w1.heap[w.heap.size]? = some (.loop { state:=.ready,pending:=none,fn:=fnid,tmps:=a.tmps,params:=ps,assign,body,defers:=r0.defers }):=by
  rw [← hw1]
  exact World.alloc_heap_new w _
 refine ⟨w.heap.size,[],w1,{ target:=.fn (.func gf) cs,args:=#[.func (.yield (w.heap.size)) #[] #[]] },w1,gf,#[.func (.yield (w.heap.size)) #[] #[]]++cs,w1,he,?_,fun _ _=>trivial,?_,depth_none,?_⟩
 ·have e1:a.eval (.const (.func (.yield (w.heap.size)) #[] #[])) = .func (.yield (w.heap.size)) #[] #[]:=rfl
  simp [resolve,e,Deferred.ofValue,e1]
 ·simp only [invoke];exact run_callFunc hcal _
 have hyall:=Sa.ylds_all hy
 have hargs:ArgsOK w1 (Tot Mo s.bx s.ow m) (m.setLp l (w.heap.size)) (.yld l::cap) (#[.func (.yield (w.heap.size)) #[] #[]]++cs):=by
  refine ⟨by simp [hs];omega,fun i hi=>?_⟩
  cases i with
  | zero =>
   have:(m.setLp l (w.heap.size)).lp l=w.heap.size:=by simp [Mp.setLp]
   simp only [List.getElem_cons_zero]
   have h0:=@RepV.yld w1 (Tot Mo s.bx s.ow m) (m.setLp l (w.heap.size)) l
   rw [this] at h0
   have e2:(#[Value.func (.yield (w.heap.size)) #[] #[]]++cs).getD 0 undef=Value.func (.yield (w.heap.size)) #[] #[]:=by
    rw [Array.getD_eq_getD_getElem?,Array.getElem?_append_left (by simp)];rfl
   rw [e2];exact h0
  | succ i =>
   have hi' : i<cap.length:=by simpa using hi
   have h0:=(hrep i hi').newLp (w':=w1) (l:=l) (N:=w.heap.size) (fun hx=>V.yldsL_lps l cap hycap (mem_lpsL hi' hx)) hbl
   simp only [List.getElem_cons_succ]
   rw [Array.getD_eq_getD_getElem?] at h0 ⊢
   rw [Array.getElem?_append_right (by simp)]
   simpa using h0
 have h0:=hR.loopInN (ps:=ps) (assign:=assign) (body:=body) (nt:=fn.ntmps) hyall hl hbl hN (Nat.le_refl _) ⟨rfl,rfl,rfl,rfl,rfl,rfl⟩ hargs hle
 refine callsIn_round (r:=some (m.lp l0)) (callsIn_of_wp_marks hf hb trivial ?_ rfl)
 have h1:=h Mo (m.setLp l (w.heap.size)) _ _ w1 (n - 1) h0
 have hrd1:rdOf (m.setLp l (w.heap.size)) (s.loopIn l fn.ntmps (.yld l::cap) ⟨s.sv.length,ps,assign,body,none⟩)=none:=rfl
 rw [hrd1] at h1
 refine wpIn_mono h1 ?_
 rintro e a' w' ⟨ex,m',s',hex,⟨hexx,hsvl,hlpn,hres⟩,hR',hst,_,hmk⟩
 have hmarks:=hmk.nil
 have hfin:Rel Mo m' s' (a' :: a::sv) w' → LeavesInM (Wd none) (n - 1) P fn a'.tmps (rangePost (Wd (some (m.lp l0))) n P (w.heap.size) (CodePost Mo m s a.defers sv w Q) { a with defers:=[]++a.defers }) a'.defers .returning w':=fun hR'=>by
  refine leaves w1.heap.size hres a'.defers a' w' rfl hR' hmarks (fun vs cc w2 hk hR2 hv hb2=>?_)
  split at hk
  ·rename_i l1 q tl hlp
   have hl00:l1=l∧q.depth=s.sv.length∧lpD tl=lpD s.lp:=by
    rw [hlp] at hlpn
    simp only [lpD,List.map_cons,List.cons.injEq,Prod.mk.injEq] at hlpn
    exact ⟨hlpn.1.1,hlpn.1.2,hlpn.2⟩
   obtain ⟨rfl,hqd,htl⟩:=hl00
   have hlook:lookN l1 s'.lp=some q:=by rw [hlp];simp [lookN]
   have hmlp:m'.lp l1=w.heap.size:=by
    have:=(hst.lpm l1 (by simp [rds,Sa.loopIn])).lp
    rw [this];simp [Mp.setLp]
   obtain ⟨rc,b,hx⟩:=hR2.lps l1 q hlook
   have hnb:rc.state ≠ .busy:=by
    have:=hx.stat
    split at this
    ·rw [this.1];decide
    ·rw [this.1];decide
    ·rename_i hp;rw [hp] at hk;exact hk.elim
   have hend:=run_endLoop (P:=P) hx.heap hnb
   have hR3:=hR2.dropLoop (r':={ rc with state:=.exhausted }) hlp (lpD_none htl.symm hl) hx.heap
   have hne:({ s' with lp:=tl }:Sa).sv≠[]:=fun e=>by simp only at e;rw [e] at hsvl;simp at hsvl
   have hdep:∀ nm x,lookN nm ({ s' with lp:=tl }:Sa).lp=some x→x.depth+1<(a::sv).length:=by
    intro nm x hx
    obtain ⟨q0,e1,e2⟩:=lpD_look htl hx
    rw [← e2];exact hR.dep nm q0 e1
   have hpop:=(hR3.pop hne hdep).setRd (some l0)
   obtain ⟨g,gs,hsv⟩:=List.exists_cons_of_ne_nil hne
   simp only at hsv
   have hout:({ ({ s' with lp:=tl }:Sa).pop with rd:=some l0 }:Sa)=s'.loopOutR s.rd:=by
    simp [Sa.pop,Sa.loopOutR,hsv,hlp,hrd]
   rw [hout] at hpop
   have hsvrd:=hst.svrd
   rw [hsv] at hsvrd
   simp only [Sa.loopIn,List.map_cons,List.cons.injEq] at hsvrd
   have hbx:(s'.loopOutR s.rd).bx=s'.bx∧(s'.loopOutR s.rd).ow=s'.ow∧(s'.loopOutR s.rd).lp=tl∧(s'.loopOutR s.rd).rd=s.rd∧(s'.loopOutR s.rd).sv.map (·.rd)=s.sv.map (·.rd):=by
    simp only [Sa.loopOutR,hsv,hlp,List.tail_cons];exact ⟨trivial,trivial,trivial,trivial,hsvrd.2⟩
   have hstep1:Step m s w (m.setLp l1 (w.heap.size)) { s with lp:=(l1,⟨s.sv.length,ps,assign,body,none⟩)::s.lp } w1:=by
    refine ⟨.of_below hbl,fun b o _ hm=>hm,?_,rfl,rfl,?_⟩
    ·rintro b hb ⟨nm,x,hx,rfl⟩
     simp only [lookN] at hx
     split at hx
     ·rename_i e;subst e
      simp only [Mp.setLp,if_true] at hb
      omega
     ·rename_i e
      refine ⟨nm,x,hx,?_⟩
      simp only [Mp.setLp]
      rw [if_neg (Ne.symm e)]
    ·intro nm hnm
     have:nm≠l1:=fun e=>hrs (e ▸ hnm)
     exact ⟨by simp [Mp.setLp,this],fun _ _=>rfl⟩
   have hkp:Keeps w1 w2 (Mut s.bx s.ow (m.setLp l1 (w.heap.size))) (LpB ((l1,⟨s.sv.length,ps,assign,body,none⟩)::s.lp) (m.setLp l1 (w.heap.size))):=(hst.after hb2).keeps
   have hstep2:Step (m.setLp l1 (w.heap.size)) { s with lp:=(l1,⟨s.sv.length,ps,assign,body,none⟩)::s.lp } w1 m' (s'.loopOutR s.rd) w2:=by
    refine ⟨hkp,?_,?_,?_,?_,?_⟩
    ·rw [hbx.1,hbx.2.1];exact hst.mt
    ·rintro b hb ⟨nm,x,hx,rfl⟩
     rw [hbx.2.2.1] at hx
     refine hst.lp _ hb ⟨nm,x,?_,rfl⟩
     rw [hlp];simp only [lookN]
     have:nm≠l1:=fun e=>by
      rw [e,lpD_none htl.symm hl] at hx;cases hx
     rw [if_neg (Ne.symm this)];exact hx
    ·exact hbx.2.2.2.1
    ·rw [hbx.2.2.2.2]
    ·intro nm hnm
     refine hst.lpm nm ?_
     simp only [rds,Sa.loopIn,List.map_cons,List.mem_cons] at hnm ⊢
     rcases hnm with h | h
     ·rw [hrd] at h;cases h;exact .inr (.inr hsv0)
     ·exact .inr (.inr h)
   have hstep:=(hstep1.trans hstep2).after (below_putObj (B:=w.heap.size) (r:=m'.lp l1) (o:=.loop { rc with state:=.exhausted }) (by rw [hmlp];omega))
   have hrdo:rdOf m' (s'.loopOutR s.rd)=rdOf m s:=by
    have h1:m'.lp l0=(m.setLp l1 w.heap.size).lp l0:=(hst.lpm l0 (by simp only [rds,Sa.loopIn,List.map_cons,List.mem_cons];exact .inr (.inr hsv0))).lp
    have h2:l0≠l1:=fun e=>hrs (by rw [← e];simp [rds,hrd])
    have h3:(m.setLp l1 w.heap.size).lp l0=m.lp l0:=by simp [Mp.setLp,h2]
    unfold rdOf
    rw [hbx.2.2.2.1,hrd,rdN_some hnh,Option.map_some,Option.map_some,h1,h3]
   have hnm:NewMarks a.defers w ([]++a.defers):=⟨[],rfl,by simp⟩
   generalize w2.putObj (m'.lp l1) (.loop { rc with state:=.exhausted })=w4 at hend hpop hstep
   refine ⟨rc.pending,w4,by rw [← hmlp];exact hend,?_⟩
   have hstat:=hx.stat
   split at hk
   ·rename_i hp
    rw [hp] at hstat
    rw [hstat.2]
    exact ⟨.norm,m',(s'.loopOutR s.rd),rfl,hk,hpop,hstep,hrdo,hnm⟩
   ·exact hk.elim
   ·rename_i j hp
    rw [hp] at hstat
    rw [hstat.2]
    have h9:=ev_sound hk Mo m' _ sv _ n hpop
    have hrd9:rdOf m' (s'.loopOutR s.rd)=some (m.lp l0):=by rw [hrdo,hrd0]
    rw [hrd9] at h9
    exact wpIn_mono h9 (fun e a2 w2 hp=>CodePost.step hstep hrdo hnm hp)
  ·exact hk.elim
 cases e with
 | normal=>cases hex;exact hfin hR'
 | ret=>cases hex;exact hfin hR'
 | exit i=>cases hex;exact hexx.elim
 | goto l=>cases hex
 | panic c=>obtain ⟨t,v,rfl,rfl⟩:=exOf_panic hex;exact hexx.elim
 | outgrown=>cases hex
theorem leftLoopN_none {rs:List ResultVar} {l:Name} {Q:Ex→Sa→Prop} (h:s.rd=none):LeftLoopN P p rs l s Q=LeftLoop P p rs l s Q:=by
 unfold LeftLoopN LeftLoop
 rw [h]
 rfl
theorem TC_rangeFuncA {g:Operand} {ps:Array Tmp} {assign body:Code} {gf:FuncId} {cap:List V} {fn:Func} {c:Code} {Q:Ex→Sa→Prop} (l qn:Name) (hrd:s.rd=none∨∃ l0 q0,s.rd=some l0∧isH l0=false∧lookN l0 s.lp=some q0∧some l0∈s.sv.map (·.rd)) (hrs:some l ∉ rds s) (hl:lookN l s.lp=none) (hy:s.ylds l=false)
  (hg:s.get g = .fn gf cap) (hycap:V.yldsL l cap=false) (hcal:callable P gf=true) (hf:P.funcs[gf]? = some fn) (hb:fn.body=some c) (hle:(V.yld l::cap).length≤fn.ntmps)
  (h:TC P qn c (s.loopIn l fn.ntmps (.yld l::cap) ⟨s.sv.length,ps,assign,body,none⟩) (LeftLoopN P qn fn.results.toList l s Q)):TC P p (.rangeFunc g ps assign body) s Q:=by
 rcases hrd with hrd | ⟨l0,q0,hrd,h0,h1,h2⟩
 ·rw [leftLoopN_none hrd] at h
  exact TC_rangeFuncT l qn hrd hrs hl hy hg hycap hcal hf hb hle h
 ·exact TC_rangeFuncN l qn hrd h0 h1 h2 hrs hl hy hg hycap hcal hf hb hle h
end Go.Ab
namespace Go.Tx
open Go Go.Ab
structure Cx where
 P:Program
 tb:Tab
 hl:Nat→Option (List Nat×List Name×List Name×Cv)
 sp:FuncId→Option Spec:=fun _=>none
def Cx.tbo (C:Cx):Tab:=fun g=>match C.sp g with
 | some _=>none
 | none=>C.tb g
mutual
def vecIn:SV→Option Name
 | .vsl n=>some n
 | .vpt n _ _ _=>some n
 | .fn _ c=>vecInL c
 | .agg c=>vecInL c
 | .mix _ _ _ c=>vecInL c
 | .tup c=>vecInL c
 | .gd _ x=>vecIn x
 | _=>none
def vecInL:List SV→Option Name
 | []=>none
 | x::l=>match vecIn x with
  | some n=>some n
  | none=>vecInL l
end
def quick (C:Cx) (nm:Name) (g:FuncId) (args:List SV) (y:Sy):Option (Bs×Sy×SV) :=
 match C.sp g with
 | some sp=>spCall C.P nm sp args y
 | none=>match callS C.tb y.g.length g args with
  | some (bs,z)=>some (bs,y.more (bs.map (·.2)),z)
  | none=>none
def softAt (C:Cx) (g:FuncId) (args:List SV) (y:Sy):Option (Name×Ty×E) :=
 match C.tb g,vecInL args with
 | some _,some i=>match lookN i y.vc with
  | some (u,q)=>some (i,u,q)
  | none=>none
 | _,_=>none
abbrev Hint:=List Nat×List Name×List Name×Cv
abbrev Log:=List (Nat×Hint)
structure Res where
 t:T
 L:List Leaf
 c:Nat
 log:Log
abbrev Ps:=List (Ty×List E)
def allOf {α β:Type} (f:α→Option β):List α→Option (List β)
 | []=>some []
 | x::xs=>match f x,allOf f xs with
  | some y,some ys=>some (y::ys)
  | _,_=>none
def headsOf:List (List SV)→Option (List SV×List (List SV))
 | []=>some ([],[])
 | (x::xs)::l=>match headsOf l with
  | some (hs,ts)=>some (x::hs,xs::ts)
  | none=>none
 | []::_=>none
def isDead:SV→Bool
 | .dead=>true
 | _=>false
def joinL (F:List SV→Ps→SV×Ps):Nat→List (List SV)→Ps→Option (List SV×Ps)
 | 0,_,ps=>some ([],ps)
 | k+1,xs,ps=>match headsOf xs with
  | some (hs,ts)=>match F hs ps with
   | (y,ps1)=>if isDead y then none else match joinL F k ts ps1 with
    | some (ys,ps2)=>some (y::ys,ps2)
    | none=>none
  | none=>none
def baseJ (n0:Nat) (t:Ty) (xs:List (E×List SV)) (ps:Ps):E×Ps:=match xs with
 | []=>(.var 0,ps)
 | (b,l)::r=>if r.all (fun q=>q.1.same b)&&b.lt n0 then (b,ps) else (.var (n0+ps.length),ps++[(t,((b,l)::r).map fun q=>q.1)])
def joinV (n0:Nat):Nat→List SV→Ps→SV×Ps
 | 0,_,ps=>(.dead,ps)
 | d+1,zs,ps=>match zs with
  | []=>(.dead,ps)
  | z::rest=>if rest.all (fun x=>x.same z)&&z.lt n0 then (z,ps) else match z with
   | .e t _=>match allOf (fun x=>match x with | .e u y=>if u=t then some y else none | _=>none) zs with
    | some xs=>(.e t (.var (n0+ps.length)),ps++[(t,xs)])
    | none=>(.dead,ps)
   | .own i sz t _=>match allOf (fun x=>match x with | .own j _ u y=>if u=t∧i=j then some y else none | _=>none) zs with
    | some xs=>(.own i sz t (.var (n0+ps.length)),ps++[(.sl t,xs)])
    | none=>(.dead,ps)
   | .mpc k t _=>match allOf (fun x=>match x with | .mpc q u y=>if u=t∧q=k then some y else none | _=>none) zs with
    | some xs=>(.mpc k t (.var (n0+ps.length)),ps++[(.mp k t,xs)])
    | none=>(.dead,ps)
   | .ref t _ o=>match allOf (fun x=>match x with | .ref u y a=>if u=t∧a=o then some y else none | _=>none) zs with
    | some xs=>(.ref t (.var (n0+ps.length)) o,ps++[(t,xs)])
    | none=>(.dead,ps)
   | .agg cs=>match allOf (fun x=>match x with | .agg y=>if y.length=cs.length then some y else none | _=>none) zs with
    | some xs=>match joinL (joinV n0 d) cs.length xs ps with
     | some (ys,ps)=>(.agg ys,ps)
     | none=>(.dead,ps)
    | none=>(.dead,ps)
   | .mix t _ os cs=>match allOf (β:=E×List SV) (fun x=>match x with | .mix u y ps ws=>if u=t∧ps=os then some (y,ws) else none | _=>none) zs with
    | some xs=>match baseJ n0 t xs ps with
     | (b,ps0)=>match joinL (joinV n0 d) cs.length (xs.map fun q=>q.2) ps0 with
      | some (ys,ps1)=>(.mix t b os ys,ps1)
      | none=>(.dead,ps)
    | none=>(.dead,ps)
   | .fn f cs=>match allOf (fun x=>match x with | .fn g y=>if y.length=cs.length∧f=g then some y else none | _=>none) zs with
    | some xs=>match joinL (joinV n0 d) cs.length xs ps with
     | some (ys,ps)=>(.fn f ys,ps)
     | none=>(.dead,ps)
    | none=>(.dead,ps)
   | _=>(.dead,ps)
def joinTs (n0:Nat) (ys:List Sy):List (Nat×SV)→Ps→List (Nat×SV)×Ps
 | [],ps=>([],ps)
 | (t,_)::l,ps=>match joinV n0 4 (ys.map fun y=>lkS t y.ts) ps with
  | (z,ps1)=>match joinTs n0 ys l ps1 with
   | (r,ps2)=>if isDead z then (r,ps2) else ((t,z)::r,ps2)
def joinBs (n0:Nat) (ys:List Sy):List (Name×SV)→Ps→List (Name×SV)×Ps
 | [],ps=>([],ps)
 | (n,_)::l,ps=>match allOf (fun (y:Sy)=>lookN n y.bx) ys with
  | some zs=>match joinV n0 4 zs ps with
   | (z,ps1)=>match joinBs n0 ys l ps1 with
    | (r,ps2)=>if isDead z then (r,ps2) else ((n,z)::r,ps2)
  | none=>joinBs n0 ys l ps
def interN (a b:List Name):List Name:=a.filter fun i=>b.contains i
def joinCs (n0:Nat) (ys:List Sy):List (Name×Ty×E)→Ps→List (Name×Ty×E)×Ps
 | [],ps=>([],ps)
 | (n,t,x)::l,ps=>match allOf (fun (y:Sy)=>match lookN n y.vc with | some (u,e)=>if u=t then some e else none | none=>none) ys with
  | some es=>if es.all (fun e=>e.same x)&&x.lt n0 then (match joinCs n0 ys l ps with | (r,ps2)=>((n,t,x)::r,ps2))
   else (match joinCs n0 ys l (ps++[(.sl t,es)]) with | (r,ps2)=>((n,t,.var (n0+ps.length))::r,ps2))
  | none=>joinCs n0 ys l ps
def commonC (ys:List Sy) (n:Name):Bool:=match ys with
 | []=>true
 | y::rest=>match lookN n y.vc with
  | some (t,_)=>rest.all fun z=>match lookN n z.vc with | some (u,_)=>decide (u=t) | none=>false
  | none=>false
def unlikeC (ys:List Sy) (common:List Name):List Name:=((ys.flatMap fun z=>(z.vc.map (·.1)).filter fun n=>!commonC ys n).eraseDups).map fun n=>if common.contains n then 987654321::n else n
mutual
def vecsOf:SV→List Name
 | .vsl n=>[n]
 | .vpt n _ _ _=>[n]
 | .fn _ c=>vecsOfL c
 | .agg c=>vecsOfL c
 | .mix _ _ _ c=>vecsOfL c
 | .tup c=>vecsOfL c
 | .gd _ x=>vecsOf x
 | _=>[]
def vecsOfL:List SV→List Name
 | []=>[]
 | x::l=>vecsOf x++vecsOfL l
end
def badVecs (ys:List Sy):List Name:=match ys with
 | []=>[]
 | y::_ =>
  let cols:=(y.ts.map fun x=>ys.map fun z=>vecsOf (lkS x.1 z.ts))++(y.bx.map fun x=>ys.map fun z=>vecsOf ((lookN x.1 z.bx).getD .dead))
  ((cols.flatMap fun col=>(col.flatMap id).filter fun n=>col.any fun c=>!c.contains n).eraseDups).filter (commonC ys)
structure Join where
 ids:List Name
 cv:Cv
 y:Sy
 ps:List Ty
 as:List (List E)
def kindOf:SV→Nat×Option Ty×Name
 | .e t _=>(1,some t,[])
 | .own i _ t _=>(2,some (.sl t),i)
 | .nil=>(3,none,[])
 | .agg _=>(4,none,[])
 | .mix t _ os _=>(6,some t,os)
 | .kd _=>(5,none,[])
 | _=>(0,none,[])
def convPlan {κ:Type} (f:κ→Sy→SV) (ys:List Sy):List κ→List (κ×Ty)
 | []=>[]
 | k::l =>
  let ks:=ys.map fun y=>kindOf (f k y)
  match ks with
  | []=>convPlan f ys l
  | (n,w,i)::rest=>if n≠0∧rest.any (fun r=>r.1≠n || r.2.2≠i)&&ks.all (fun r=>r.1≠0) then (match ks.findSome? (fun r=>if r.1=1 then r.2.1 else none),ks.findSome? (fun r=>r.2.1) with
    | some w,_=>(k,w)::convPlan f ys l
    | none,some w=>(k,w)::convPlan f ys l
    | none,none=>convPlan f ys l)
   else convPlan f ys l
def joinY (g0:List Ty) (ys:List Sy):Option Join :=
 match ys with
 | []=>none
 | y::rest =>
  let common:=rest.foldl (fun a z=>interN a z.ow) y.ow
  let ids:=(ys.flatMap fun z=>z.ow.filter fun i=>!common.contains i).eraseDups++unlikeC ys common++(badVecs ys).map fun n=>if common.contains n then 987654321::n else n
  let zs0:=ys.map (stripAll ids)
  let cv:=(convPlan (fun t (y:Sy)=>lkS t y.ts) zs0 (match zs0 with | z::_=>z.ts.map (·.1) | []=>[]),convPlan (fun n (y:Sy)=>(lookN n y.bx).getD .dead) zs0 (match zs0 with | z::_=>z.bx.map (·.1) | []=>[]))
  let zs:=zs0.map (convY cv)
  match zs with
  | []=>none
  | z::_ =>
   let (ts,p1):=joinTs g0.length zs z.ts []
   let (bx,p2):=joinBs g0.length zs z.bx p1
   let (vc,p3):=joinCs g0.length zs z.vc p2
   let ps:=p3.map (·.1)
   some ⟨ids,cv,{ z with g:=g0++ps,ts:=ts,bx:=bx,ow:=common,vc:=vc },ps,(List.range ys.length).map fun i=>p3.map fun p=>p.2.getD i (.var 0)⟩
def sameLf (a b:Leaf):Bool:=sameEx a.e b.e&&lpB a.s.lp b.s.lp
def classes:List Leaf→List Leaf→List Leaf
 | [],acc=>acc.reverse
 | x::l,acc=>if acc.any (sameLf x) then classes l acc else classes l (x::acc)
def isFnS:SV→Bool
 | .fn _ _=>true
 | _=>false
def losesFn (g0:List Ty) (mem:List Leaf):Bool:=match mem with
 | lf::_=>lf.s.bx.any (fun x=>isFnS x.2)&&match joinY g0 (mem.map (·.s)) with
  | some j=>lf.s.bx.any fun x=>isFnS x.2&&(lookN x.1 j.y.bx).isNone
  | none=>false
 | []=>false
def mergeOne (g0:List Ty) (force:Bool) (rep:Leaf) (r:Res):Option Res :=
 let mem:=r.L.filter fun x=>sameLf x rep
 if !force&&((mem.length≤1:Bool) || losesFn g0 mem) then some r
 else match joinY g0 (mem.map (·.s)) with
  | some j=>if j.y.g=g0++j.ps then (match glue g0.length j.ids j.cv j.y j.ps rep j.as r.t r.L with
   | some (t,L)=>some { r with t:=t,L:=L }
   | none=>none) else none
  | none=>none
def mergeAll (g0:List Ty) (force:Bool) (r:Res):Option Res :=
 (classes r.L []).foldl (fun (acc:Option Res) (rep:Leaf)=>match acc with | some r=>mergeOne g0 force rep r | none=>none) (some r)
structure Lv where
 n:List Nat
 ex:List (Nat×List Nat)
 r:List Nat
inductive LC where
 | nil | seq (lb:List Nat) (a b:LC) | two (a b:LC) | loop (l:List Nat) (b:LC)
 deriving Inhabited
def memN (t:Nat):List Nat→Bool
 | []=>false
 | a::l=>if Nat.beq a t then true else memN t l
def addN (t:Nat) (l:List Nat):List Nat:=if memN t l then l else t::l
def uniN:List Nat→List Nat→List Nat
 | [],l=>l
 | t::k,l=>addN t (uniN k l)
def lookL (i:Nat):List (Nat×List Nat)→List Nat
 | []=>[]
 | (a,l)::k=>if Nat.beq a i then l else lookL i k
def lvAt (lv:Lv):Ex→List Nat
 | .norm=>lv.n
 | .exit i=>lookL i lv.ex
 | .ret=>lv.r
 | .thr _=>lookL 1000001 lv.ex
def opdN:Operand→List Nat→List Nat
 | .tmp t,l=>addN t l
 | _,l=>l
def opdsN:List Operand→List Nat→List Nat
 | [],l=>l
 | o::os,l=>opdN o (opdsN os l)
def opsN (all:Array Oper):List Oper→List Nat→List Nat
 | [],l=>l
 | o::os,l =>
  let after:=opsN all os l
  let cut:=match o.dst with | some d=>after.filter fun t=>!Nat.beq t d | none=>after
  opdsN o.op.operands.toList (match o.guard with
   | some (j,_)=>(match (all[j]?).bind (·.dst) with | some t=>addN t cut | none=>cut)
   | none=>cut)
def readsN:Code→List Nat→List Nat
 | .region _ ops _,l=>ops.toList.foldr (fun o l=>opdsN o.op.operands.toList l) l
 | .seq a b,l=>readsN a (readsN b l)
 | .cond c a b,l=>opdN c (readsN a (readsN b l))
 | .block _ b,l=>readsN b l
 | .scope b,l=>readsN b l
 | .loop b,l=>readsN b l
 | .rangeFunc g _ a b,l=>opdN g (readsN a (readsN b l))
 | _,l=>l
def annot:Code→Lv→List Nat×LC
 | .region _ ops _,lv=>(opsN ops ops.toList lv.n,.nil)
 | .seq a b,lv=>match annot b lv with
  | (lb,B)=>match annot a { lv with n:=lb } with
   | (la,A)=>(la,.seq lb A B)
 | .cond c a b,lv=>match annot a lv,annot b lv with
  | (la,A),(lb,B)=>(opdN c (uniN la lb),.two A B)
 | .block id b,lv=>match annot b { lv with ex:=(id,lv.n)::lv.ex } with
  | (l,B)=>(l,.two B .nil)
 | .loop b,lv=>match annot b { lv with n:=[] } with
  | (l,_)=>match annot b { lv with n:=l } with
   | (_,B)=>(l,.loop l B)
 | .rangeFunc g _ a b,lv=>(opdN g (readsN a (readsN b (uniN lv.n (uniN lv.r (lv.ex.foldr (fun x l=>uniN x.2 l) []))))),.nil)
 | .scope b,lv=>match annot b lv with
  | (l,B)=>(l,.two B .nil)
 | .exit i,lv=>(lookL i lv.ex,.nil)
 | .ret,lv=>(lv.r,.nil)
 | _,lv=>(lv.n,.nil)
def resN:List ResultVar→List Nat
 | []=>[]
 | .tmp t::rs=>addN t (resN rs)
 | .cell a _::rs=>addN a (resN rs)
def lv0:Lv:=⟨[],[],[]⟩
def lvF (rs:List ResultVar):Lv:=⟨resN rs,[],resN rs⟩
def LC.a:LC→LC
 | .seq _ a _=>a
 | .two a _=>a
 | .loop _ b=>b
 | .nil=>.nil
def LC.b:LC→LC
 | .seq _ _ b=>b
 | .two _ b=>b
 | _=>.nil
def LC.l:LC→List Nat
 | .seq l _ _=>l
 | .loop l _=>l
 | _=>[]
def keepTs (kp:List Nat) (y:Sy):Sy:={ y with ts:=y.ts.filter fun x=>memN x.1 kp,bx:=y.bx.map fun x=>(x.1,x.2.norm) }
def Sy.thrown (y:Sy) (z:SV):Sy:={ y with n:=y.n+1,ts:=setS y.n z y.ts }
def lvX (lv:Lv) (lf:Leaf):List Nat:=match lf.e with
 | .thr _=>(lf.s.n - 1)::lvAt lv lf.e
 | e=>lvAt lv e
def keepR (lv:Lv) (r:Res):Res:={ r with L:=r.L.map fun lf=>{ lf with s:=keepTs (lvX lv lf) lf.s } }
def binds:Bs→T→T
 | [],t=>t
 | b::bs,t=>.bind b.1 b.2 (binds bs t)
def shiftT (k n:Nat) (t:T):T:=t.sub fun i=>if i<n then .hole (i+k) else .fail
def contL (f:Leaf→Nat→Option Res):List Leaf→Nat→Nat→Option (List T×List Leaf×Nat×Log)
 | [],_,c=>some ([],[],c,[])
 | lf::L,off,c=>match f lf c with
  | some r=>match contL f L (off+r.L.length) r.c with
   | some (ts,Ls,c2,lg)=>some ((if off=0∧L.isEmpty=true then r.t else shiftT off r.L.length r.t)::ts,r.L++Ls,c2,r.log++lg)
   | none=>none
  | none=>none
def thenL (r:Res) (f:Leaf→Nat→Option Res):Option Res :=
 match contL f r.L 0 r.c with
 | some (ts,Ls,c,lg)=>some ⟨r.t.sub (fun i=>ts.getD i .fail),Ls,c,r.log++lg⟩
 | none=>none
def mapL (f:Leaf→Leaf) (r:Res):Res:={ r with L:=r.L.map f }
def one (e:Ex) (v:SV) (y:Sy) (c:Nat):Res:=⟨.hole 0,[⟨e,v,y⟩],c,[]⟩
def passT (f:Leaf→Nat→Option Res):Leaf→Nat→Option Res:=fun lf c=>match lf.e with
 | .thr _=>some (one lf.e lf.v lf.s c)
 | _=>f lf c
def endOp (lf:Leaf):Leaf:=match lf.e with
 | .thr t=>⟨.thr t,.dead,lf.s.thrown lf.v⟩
 | _=>{ lf with e:=.norm }
def isThr:Ex→Bool
 | .thr _=>true
 | _=>false
def endE:Ex→Ex
 | .thr t=>.thr t
 | _=>.ret
def param1 (n0:Nat) (z:SV) (ps:Ps):SV×Ps:=match z with
 | .e (.cst c) x=>(.e (.cst c) x,ps)
 | .e t x=>(.e t (.var (n0+ps.length)),ps++[(t,[x])])
 | .own i sz t x=>(.own i sz t (.var (n0+ps.length)),ps++[(.sl t,[x])])
 | .mpc k t x=>(.mpc k t (.var (n0+ps.length)),ps++[(.mp k t,[x])])
 | z=>(z,ps)
def paramL (n0:Nat):List SV→Ps→List SV×Ps
 | [],ps=>([],ps)
 | z::l,ps=>match param1 n0 z ps with
  | (z1,ps1)=>match paramL n0 l ps1 with
   | (r,ps2)=>(z1::r,ps2)
def paramV (n0:Nat) (z:SV) (ps:Ps):SV×Ps:=match z with
 | .agg cs=>match paramL n0 cs ps with | (ds,ps1)=>(.agg ds,ps1)
 | .mix t x os cs=>match paramL n0 cs (ps++[(t,[x])]) with | (ds,ps1)=>(.mix t (.var (n0+ps.length)) os ds,ps1)
 | z=>param1 n0 z ps
def paramK {κ:Type} (n0:Nat) (ch:κ→Bool):List (κ×SV)→Ps→List (κ×SV)×Ps
 | [],ps=>([],ps)
 | (t,z)::l,ps=>match (if ch t then paramV n0 z ps else (z,ps)) with
  | (z1,ps1)=>match paramK n0 ch l ps1 with
   | (r,ps2)=>((t,z1)::r,ps2)
def paramC (n0:Nat) (ch:Name→Bool):List (Name×Ty×E)→Ps→List (Name×Ty×E)×Ps
 | [],ps=>([],ps)
 | (n,t,x)::l,ps=>if ch n then (match paramC n0 ch l (ps++[(.sl t,[x])]) with | (r,ps2)=>((n,t,.var (n0+ps.length))::r,ps2))
  else (match paramC n0 ch l ps with | (r,ps2)=>((n,t,x)::r,ps2))
def headY (g0:List Ty) (h:Option Hint) (y:Sy):Sy×List Ty×List E :=
 let (ts,p1):=paramK g0.length (fun t=>match h with | some h=>h.1.contains t | none=>true) y.ts []
 let (bx,p2):=paramK g0.length (fun n=>match h with | some h=>h.2.1.contains n | none=>true) y.bx p1
 let (vc,p3):=paramC g0.length (fun n=>match h with | some h=>h.2.1.contains n | none=>true) y.vc p2
 ({ y with g:=g0++p3.map (·.1),ts:=ts,bx:=bx,vc:=vc },p3.map (·.1),p3.map fun p=>p.2.headD (.var 0))
def hIds:Option Hint→List Name
 | some h=>h.2.2.1
 | none=>[]
def hCv:Option Hint→Cv
 | some h=>h.2.2.2
 | none=>([],[])
def matchV:SV→SV→List (Nat×E)
 | .e _ (.var i),.e _ x=>[(i,x)]
 | .own _ _ _ (.var i),.own _ _ _ x=>[(i,x)]
 | .mpc _ _ (.var i),.mpc _ _ x=>[(i,x)]
 | .agg cs,.agg ds=>(cs.zip ds).flatMap fun z=>match z with
  | (.e _ (.var i),.e _ x)=>[(i,x)]
  | (.own _ _ _ (.var i),.own _ _ _ x)=>[(i,x)]
  | _=>[]
 | .mix _ (.var i) _ cs,.mix _ x _ ds=>(i,x)::(cs.zip ds).flatMap fun z=>match z with
  | (.e _ (.var i),.e _ x)=>[(i,x)]
  | (.own _ _ _ (.var i),.own _ _ _ x)=>[(i,x)]
  | _=>[]
 | _,_=>[]
def lookE (i:Nat):List (Nat×E)→E
 | []=>.var i
 | (j,x)::l=>if Nat.beq i j then x else lookE i l
def argsFor (n0 np:Nat) (yJ y:Sy):List E :=
 let m:=(yJ.ts.flatMap fun x=>matchV x.2 (lkS x.1 y.ts))++(yJ.bx.flatMap fun x=>match lookN x.1 y.bx with | some z=>matchV x.2 z | none=>[])++(yJ.vc.flatMap fun x=>match x.2.2,lookN x.1 y.vc with | .var i,some (_,e)=>[(i,e)] | _,_=>[])
 (List.range np).map fun k=>lookE (n0+k) m
def changedOf (h:Option Hint) (yJ:Sy) (ys:List Sy):Hint :=
 let cv:Cv:=(convPlan (fun t (y:Sy)=>lkS t y.ts) (yJ::ys) (yJ.ts.map (·.1)),convPlan (fun n (y:Sy)=>(lookN n y.bx).getD .dead) (yJ::ys) (yJ.bx.map (·.1)))
 ((yJ.ts.filter fun x=>ys.any fun y=>!(lkS x.1 y.ts).same x.2).map (·.1),(yJ.bx.filter fun x=>ys.any fun y=>match lookN x.1 y.bx with | some z=>!z.same x.2 | none=>true).map (·.1)++(yJ.vc.filter fun x=>ys.any fun y=>match lookN x.1 y.vc with | some (_,e)=>!e.same x.2.2 | none=>true).map (·.1),
  hIds h++(yJ.ow.filter fun i=>ys.any fun y=>!y.ow.contains i)++((yJ.vc.filter fun x=>ys.any fun y=>(lookN x.1 y.vc).isNone).map fun x=>987654321::x.1),((hCv h).1++cv.1,(hCv h).2++cv.2))
def isNorm:Ex→Bool
 | .norm=>true
 | _=>false
def loopR (g0:List Ty) (hh:Option Hint) (yL:Sy) (ps:List Ty) (init:List E) (c0:Nat) (r:Res):Option Res :=
 match sigma g0.length (hIds hh) (hCv hh) yL ⟨.norm,.dead,yL⟩ r.L (((r.L.filter fun lf=>isNorm lf.e).map fun lf=>prepY (hIds hh) (hCv hh) lf.s).map fun y=>argsFor g0.length ps.length yL y) 0 with
 | some (ts,os)=>if os.all (fun lf=>!isNorm lf.e)=true then mergeAll g0 true ⟨.loop ps init ((r.t.lift 0).sub fun i=>ts.getD i .fail),os,r.c,(c0,changedOf hh yL ((r.L.filter fun lf=>isNorm lf.e).map (·.s)))::r.log⟩ else none
 | none=>mergeAll g0 true ⟨.fail,r.L.filter fun lf=>!isNorm lf.e,r.c,(c0,changedOf hh yL ((r.L.filter fun lf=>isNorm lf.e).map (·.s)))::r.log⟩
def argS:Nat→List SV→List (Nat×SV)
 | _,[]=>[]
 | i,v::vs=>(i,v)::argS (i+1) vs
def Sy.push (y:Sy) (n:Nat) (args:List SV):Sy:={ y with rd:=none,n:=n,ts:=argS 0 args,sv:=⟨y.rd,y.n,y.ts⟩::y.sv }
def Sy.pop (y:Sy):Sy:=match y.sv with
 | f::fs=>{ y with rd:=f.rd,n:=f.n,ts:=f.ts,sv:=fs }
 | []=>y
def Sy.loopIn (y:Sy) (l:Name) (nt:Nat) (args:List SV) (q:Lp):Sy:={ y with rd:=none,n:=nt,ts:=argS 0 args,sv:=⟨some l,y.n,y.ts⟩::y.sv,lp:=(l,q)::y.lp }
def Sy.loopOut (y:Sy):Sy:=match y.sv with
 | f::fs=>{ y with rd:=none,n:=f.n,ts:=f.ts,sv:=fs,lp:=y.lp.tail }
 | []=>y
def Sy.loopOutR (y:Sy) (r:Option Name):Sy:=match y.sv with
 | f::fs=>{ y with rd:=r,n:=f.n,ts:=f.ts,sv:=fs,lp:=y.lp.tail }
 | []=>y
def rdOKS (y:Sy):Bool:=match y.rd with
 | none=>true
 | some l=>!isH l&&((lookN l y.lp).isSome&&(y.sv.map (·.rd)).contains (some l))
def Sy.setLp (y:Sy) (l:Name) (q:Lp):Sy:={ y with lp:=Ab.setN l q y.lp }
def setAllS:List Nat→List SV→List (Nat×SV)→List (Nat×SV)
 | t::ts,v::vs,l=>setAllS ts vs (setS t v l)
 | _,_,l=>l
def framesS (y:Sy):List SFr:=⟨y.rd,y.n,y.ts⟩::y.sv
def Sy.round (y:Sy) (l:Name) (f:SFr) (ps:List Nat) (args:List SV):Sy:={ y with rd:=some l,n:=f.n,ts:=setAllS ps args f.ts,sv:=⟨y.rd,y.n,y.ts⟩::y.sv }
def resV (P:Program) (y:Sy):List ResultVar→Option (List SV)
 | []=>some []
 | .tmp t::rs=>(resV P y rs).map fun vs=>lkS t y.ts::vs
 | .cell a t::rs=>match tagg P t with
  | some ag=>if ag=true∨tsz P t≠0 then (match lkS a y.ts with
   | .ptr nm off=>match lookN nm y.bx with
    | some c=>match loadC ag (tyD P t) off (tsz P t) c with
     | some z=>(resV P y rs).map fun vs=>z::vs
     | none=>none
    | none=>none
   | _=>none) else none
  | none=>none
def mkResS:List SV→SV
 | [v]=>v
 | vs=>.tup vs
def isExit' : Ex→Bool
 | .exit _=>true
 | _=>false
def endL (r:Res):Option Res:=if r.L.any (fun lf=>isExit' lf.e) then none else some (mapL (fun lf=>{ lf with e:=endE lf.e }) r)
def goesOn' : Ex→Bool
 | .norm=>true
 | _=>false
def ownerOf' : Name→FuncId
 | [_,f]=>f
 | _=>0
def notNilS:SV→Bool
 | .nil=>false
 | .gd _ x=>notNilS x
 | _=>true
def notNilO:Option SV→Bool
 | some z=>notNilS z
 | none=>false
def nilOKS (y:Sy):Op→Bool
 | .binOp _ _ _ z _=>notNilO (y.get z)
 | .assign x=>notNilO (y.get x)
 | _=>true
def segS (C:Cx) (p:Name) (all:Array Oper):List Nat→Sy→Option (Bs×Sy)
 | [],y=>some ([],y)
 | i::l,y=>match all[i]? with
  | some o=>if nilOKS y o.op=true then (match oneOp C.P C.tb p all y o with
   | some (bs,y1)=>match segS C p all l y1 with
    | some (bs2,y2)=>some (bs++bs2,y2)
    | none=>none
   | none=>none) else none
  | none=>none
def lkDS (d:Option Tmp) (y:Sy):SV:=match d with | some t=>lkS t y.ts | none=>.dead
def restrY (R:List Name) (y:Sy):Sy:={ y with bx:=y.bx.filter fun x=>R.contains x.1,vc:=y.vc.filter fun x=>R.contains x.1 }
def putAllS (all:Array Oper) (s:Sy) (l:List (Nat×SV)):Sy:=l.foldl (fun s x=>s.put (dstOf all x.1) x.2) s
def zOfS (P:Program) (all:Array Oper) (x:Nat):SV:=match all[x]? with
 | some o=>(match o.op with | .alloc ty=>(zeroSV P ty).getD .dead | _=>.dead)
 | none=>.dead
def adoptS (P:Program) (all:Array Oper) (p:Name) (l:List Nat) (y:Sy):Sy:=putAllS all { y with bx:=l.map (fun x=>(nmOf all p x,zOfS P all x))++y.bx } (l.map fun x=>(x,SV.ptr (nmOf all p x) 0))
def zrB (P:Program) (all:Array Oper) (x:Nat):Bool:=match all[x]? with
 | some o=>(match o.op with
  | .alloc ty=>(match zeroSV P ty with | some z=>notNilS z&&decide (sizeS z=some (tsz P ty)) | none=>false)
  | _=>false)
 | none=>false
def isLook (C:Cx) (pc:Bool) (all:Array Oper) (x:Nat):Bool:=match all[x]? with
 | some o=>(match o.op with
  | .call c=>(match c.callee with
   | .value (.func g)=>pc&&((C.tb g).isSome&&(C.sp g).isNone)
   | .value _=>false
   | _=>calm o.op)
  | _=>calm o.op)&&match o.dst with
  | some d=>all.toList.all fun o2=>!memN d (opReads all o2) || memN x (aft o2)
  | none=>false
 | none=>false
def isAl (P:Program) (all:Array Oper) (x:Nat):Bool:=match all[x]? with
 | some o=>o.dst.isSome&&(o.guard.isNone&&((aft o).isEmpty&&zrB P all x))
 | none=>false
def topo (all:Array Oper):Nat→List Nat→List Nat→List Nat
 | 0,acc,_=>acc.reverse
 | k+1,acc,todo=>match todo.find? fun i=>(aftOf all i).all fun x=>memN x acc with
  | none=>acc.reverse
  | some i=>topo all k (i::acc) (todo.filter fun j=>!Nat.beq j i)
def coreOf (C:Cx) (pc:Bool) (all:Array Oper):List Nat×List Nat×List Nat :=
 let t:=topo all all.size [] (List.range all.size)
 (t.filter (isLook C pc all),t.filter (isAl C.P all),t.filter fun x=>!(isLook C pc all x || isAl C.P all x))
mutual
def detS:SV→Bool
 | .ref _ _ _=>false
 | .mpc _ _ _=>false
 | .fn _ c=>detL c
 | .agg c=>detL c
 | .mix _ _ _ c=>detL c
 | .tup c=>detL c
 | .gd _ x=>detS x
 | _=>true
def detL:List SV→Bool
 | []=>true
 | x::l=>detS x&&detL l
end
def keepB (y s:Sy) (n:Name):Bool:=(match lookN n y.bx with
  | some z=>(match lookN n s.bx with | some u=>detS z&&z.same u | none=>false)
  | none=>true)&&(match lookN n y.vc with
  | some (t,x)=>(match lookN n s.vc with | some (u,e)=>decide (t=u)&&x.same e | none=>false)
  | none=>true)
def besN (y:Sy):List Name:=y.bx.map (·.1)++y.vc.map (·.1)
def isPtr (n:Name):SV→Bool
 | .ptr m _=>decide (m=n)
 | _=>false
def isMref (n:Name):SV→Bool
 | .mref m=>decide (m=n)
 | _=>false
def isVsl (n:Name):SV→Bool
 | .vsl m=>decide (m=n)
 | _=>false
mutual
def keepS (f g:Name→Bool):SV→Bool
 | .e _ _ | .nil | .ref _ _ _ | .kd _ | .dead=>true
 | .ptr n _=>f n
 | .aptr n _ _ _ _ _=>f n
 | .mref n=>f n
 | .vsl n=>g n
 | .vpt n _ _ _=>g n
 | .fn _ c=>keepSL f g c
 | .agg c=>keepSL f g c
 | .tup c=>keepSL f g c
 | .gd _ x=>keepS f g x
 | _=>false
def keepSL (f g:Name→Bool):List SV→Bool
 | []=>true
 | x::l=>keepS f g x&&keepSL f g l
end
def kpN (ds:List Tmp) (y s:Sy) (n:Name):Bool:=y.ts.any fun x=>!ds.contains x.1&&((isPtr n (lkS x.1 y.ts)&&isPtr n (lkS x.1 s.ts)) || (isMref n (lkS x.1 y.ts)&&isMref n (lkS x.1 s.ts)))
def kpM (ds:List Tmp) (y s:Sy) (n:Name):Bool:=y.ts.any fun x=>!ds.contains x.1&&(isVsl n (lkS x.1 y.ts)&&isVsl n (lkS x.1 s.ts))
def keepCS (all:Array Oper) (V1 V0:List (Nat×SV)) (hbs:List (Nat×Sy)) (d:Option Tmp) (y y1 yj:Sy):Bool :=
 hbs.all (fun h=>(besN h.2).all fun n=>keepB h.2 yj n)&&(Nat.beq yj.n y.n&&(V1.all (fun q=>(readsOf all q.1).all fun u=>V1.any (fun r=>decide (dstOf all r.1=some u)) || detS (lkS u (putAllS all y V0).ts)&&(lkS u (putAllS all y V0).ts).same (lkS u (putAllS all yj V1).ts)) &&
  V1.all fun q=>keepS (kpN (d.toList++V1.filterMap fun q=>dstOf all q.1) y1 yj) (kpM (d.toList++V1.filterMap fun q=>dstOf all q.1) y1 yj) q.2))
def stS (P:Program) (p:Name) (all:Array Oper) (fl0 js fl al:List Nat) (V0:List (Nat×SV)) (y:Sy):Bool :=
 idxB all fl0 js fl al (V0.map (·.1))&&(al.all (fun x=>!y.refs (nmOf all p x)&&(isNone' (lookN (nmOf all p x) y.bx)&&(V0.all (fun z=>!z.2.refs (nmOf all p x))&&(zrB P all x&&match dstOf all x with | some d=>decide (d<y.n) | none=>true)))) &&
  (fl++al).all fun q=>match dstOf all q with | some d=>isDead (lkS d y.ts) | none=>true)
def namesIn:SV→List Name
 | .ptr n _=>[n]
 | .aptr n _ _ _ _ _=>[n]
 | .mref n=>[n]
 | .vsl n=>[n]
 | .vpt n _ _ _=>[n]
 | .gd _ x=>namesIn x
 | _=>[]
def onlyV:SV→List Name
 | .vsl n=>[n]
 | .gd _ x=>onlyV x
 | _=>[]
def namesOf (o:Oper) (y:Sy):List Name:=match o.op with
 | .load _ x=>(match y.get x with | some z=>namesIn z | none=>[])
 | .lookup _ x _ _=>(match y.get x with | some z=>namesIn z | none=>[])
 | .indexAddr _ x _=>(match y.get x with | some z=>onlyV z | none=>[])
 | .call c=>c.args.toList.flatMap fun x=>match y.get x with | some z=>onlyV z | none=>[]
 | _=>[]
def segRS (C:Cx) (p:Name) (all:Array Oper):List Nat→Sy→Option (Bs×List (Nat×Sy)×Sy)
 | [],y=>some ([],[],y)
 | i::l,y=>match all[i]? with
  | some o=>if nilOKS y o.op=true then (match oneOp C.P C.tb p all (restrY (namesOf o y) y) o with
   | some (bs,y1)=>match segRS C p all l { y1 with bx:=y.bx,vc:=y.vc } with
    | some (bs2,hs,y2)=>some (bs++bs2,(i,restrY (namesOf o y) y)::hs,y2)
    | none=>none
   | none=>none) else none
  | none=>none
def ownIn:SV→List Name
 | .own i _ _ _=>[i]
 | _=>[]
def coreIds (C:Cx) (p:Name) (all:Array Oper) (fl0 js al:List Nat) (y:Sy):List Name:=match js with
 | []=>[]
 | j::_=>match segS C p all (newV all fl0 js fl0 al []) y with
  | some (_,y1)=>((newV all fl0 js fl0 al []).filter fun q=>!(need all fl0.reverse (aftOf all j)).contains q).flatMap fun q=>ownIn (lkDS (dstOf all q) y1)
  | none=>[]
def killS (all:Array Oper) (l:List Nat) (y:Sy):Sy:={ y with ts:=y.ts.filter fun x=>!l.any fun q=>decide (dstOf all q=some x.1) }
def sfields (P:Program) (t:TypeId):List (Nat×Ty):=match P.underlying t with
 | some (.struct fs)=>fs.toList.filterMap fun f=>match telem P f.type with
  | some e=>(tyD P e).map fun w=>(f.offset,w)
  | none=>none
 | _=>[]
def claimsOf (C:Cx) (p:Name) (ops:Array Oper):List (Name×Nat×Ty×Bool):=ops.toList.flatMap fun o=>match o.op,o.dst with
 | .box t _,some d=>(sfields C.P t).map fun x=>(d::p,x.1,x.2,(C.sp (2000000+t * 1000+x.1)).isSome)
 | _,_=>[]
def claimR (cl:List (Name×Nat×Ty×Bool)) (r:Res):Res:={ r with L:=r.L.map fun lf=>{ lf with s:=claimAll cl lf.s } }
def Sy.unthr (y:Sy):Sy:={ y with rd:=none,n:=y.n - 1,ts:=(y.n - 1,.dead)::y.ts }
def Sy.handed (y:Sy) (H:HandI) (caps:List SV) (nm:Name) (v:SV):Sy:={ y.push H.nt caps with ts:=(H.y,.ptr nm 0)::argS 0 caps,bx:=(nm,v)::y.bx }
def handPre (P:Program) (H:HandI) (p:Name) (y:Sy) (caps:List SV) (v:SV):Bool :=
 !y.refs (H.y::p)&&(lookN (H.y::p) y.bx).isNone && !SV.refsL (H.y::p) caps && !v.refs (H.y::p)&&notNilS v&&decide (sizeS v=some (tsz P H.ty))
def markTs (c:Nat):List SV→Option (List Nat)
 | []=>some []
 | .ptr [t,c'] 0::vs=>if c' = c then (markTs c vs).map (t :: ·) else none
 | _=>none
def markOf:List SV→Option Name
 | .ptr [t,c] 0::vs=>(markTs c vs).map fun ts=>0::c::t::ts
 | _=>none
inductive Task where
 | code (f:FuncId) (c:Code) (lc:LC) (lv:Lv)
 | ops (f:FuncId) (all:Array Oper) (l:List Oper)
 | core (f:FuncId) (all:Array Oper) (fl0 js fl al:List Nat) (V0:List (Nat×SV)) (hbs:List (Nat×Sy))
 | call (g:FuncId) (args:List SV)
 | yld (l:Name) (args:List SV)
def lpD' (l:List (Name×Lp)):List (Name×Nat):=l.map fun x=>(x.1,x.2.depth)
def openY (g:E) (y:Sy):Sy:={ y with ts:=y.ts.map fun x=>(x.1,reduceG [g] x.2) }
def shutV (g:E) (z:SV):SV:=match z with
 | .gd gs x=>if gs.any (fun h=>h.same g) then .tup [] else .gd gs x
 | z=>z
def shutY (g:E) (y:Sy):Sy:={ y with ts:=y.ts.map fun x=>(x.1,shutV g x.2) }
def callOp (C:Cx) (rec:Name→Task→Sy→Nat→Option Res) (p:Name) (f:FuncId) (all:Array Oper) (rest:List Oper) (o:Oper) (y:Sy) (c:Nat):Option Res :=
 match o.op with
 | .call cl=>match cl.callee with
  | .value fv=>match y.get fv,getAll y.get cl.args.toList with
   | some z,some args =>
    let p':=o.dst.getD 0::p
    match (match z with
     | .e (.cst (.fnc g)) _=>if callable C.P g=true then rec p' (.call g args) y c else none
     | .fn g cap=>if g<fnB then (if callable C.P g=true then rec p' (.call g (args++cap)) y c else none) else if callable C.P (g - fnB)=true then rec p' (.call (g - fnB) (cap++args)) y c else none
     | .yld l=>rec p' (.yld l args) y c
     | _=>none) with
    | some r=>thenL r (passT fun lf c=>if dstOK lf.s.n o.dst=true then rec p (.ops f all rest) (lf.s.put o.dst lf.v) c else none)
    | none=>none
   | _,_=>none
  | _=>none
 | _=>none
def handE (C:Cx) (rec:Name→Task→Sy→Nat→Option Res) (K:HandC) (rs:List ResultVar) (y:Sy) (caps:List SV) (c0:Nat) (lf:Leaf) (c:Nat):Option Res :=
 if lf.s.sv.length=y.sv.length+1∧lpD' lf.s.lp=lpD' y.lp∧isExit' lf.e=false then (match lf.e with
  | .thr t=>if t=K.H.ty∧handPre C.P K.H [c0] lf.s.unthr caps (lkS (lf.s.n - 1) lf.s.ts)=true then (match rec [c0] (.ops K.g K.H.ops K.H.ops.toList) (lf.s.unthr.handed K.H caps [K.H.y,c0] (lkS (lf.s.n - 1) lf.s.ts)) c with
   | some r=>thenL r fun l4 c=>if isThr l4.e=false∧l4.s.sv.length=lf.s.sv.length+1∧lpD' l4.s.lp=lpD' lf.s.lp then (match resV C.P l4.s.pop rs with
    | some vs=>some (one .norm (mkResS vs) l4.s.pop.pop c)
    | none=>none) else none
   | none=>none) else none
  | _=>match resV C.P lf.s rs with
   | some vs=>some (one .norm (mkResS vs) lf.s.pop c)
   | none=>none) else none
def handB (C:Cx) (rec:Name→Task→Sy→Nat→Option Res) (K:HandC) (f:FuncId) (rs:List ResultVar) (lc:LC) (y:Sy) (c0:Nat) (lf:Leaf) (c:Nat):Option Res :=
 match lf.e,getAll lf.s.get K.caps.toList,lf.s.rd with
 | .norm,some caps,none=>match markOf caps with
  | some mk=>if K.d<lf.s.n∧caps.length≤K.H.ar then (match rec [c0] (.code f K.rest lc (lvF rs)) { lf.s.put (some K.d) .dead with rd:=some mk } c with
   | some r=>match endL r with
    | some r=>match mergeAll lf.s.g false r with
     | some r=>thenL r (handE C rec K rs y caps c0)
     | none=>none
    | none=>none
   | none=>none) else none
  | none=>none
 | _,_,_=>none
def handR (C:Cx) (rec:Name→Task→Sy→Nat→Option Res) (K:HandC) (f:FuncId) (nt:Nat) (rs:List ResultVar) (args:List SV) (y:Sy) (c:Nat):Option Res :=
 let lc:=(annot (.seq K.r0 (.seq (.region K.id #[K.o1,K.o2] false) K.rest)) (lvF rs)).2
 match rec [c] (.code f K.r0 lc.a { lvF rs with n:=lc.l }) (y.push nt args) (c+1) with
 | some r=>thenL r (handB C rec K f rs lc.b.b y c)
 | none=>none
def orSoft (C:Cx) (c:Nat) (r:Option Res):Option Res:=match r with
 | some r=>some r
 | none=>if (C.sp 3000000).isSome then some ⟨.fail,[],c,[]⟩ else none
def cmp (C:Cx):Nat→Name→Task→Sy→Nat→Option Res
 | 0,_,_,_,_=>none
 | n+1,p,t,y,c=>match t with
  | .code f cd lc lv=>match cd with
   | .skip=>some (one .norm .dead y c)
   | .label _=>some (one .norm .dead y c)
   | .scope b=>cmp C n p (.code f b lc.a lv) y c
   | .exit i=>some (one (.exit i) .dead y c)
   | .ret=>some (one .ret .dead y c)
   | .region _ ops false=>(cmp C n p (.ops f ops ops.toList) y c).map fun r=>keepR lv (claimR (claimsOf C p ops) (mapL endOp r))
   | .region _ ops true =>
    let go:=fun pc=>match coreOf C pc ops with
     | (fl,al,js)=>if coreB ops fl al js=true then (cmp C n p (.core f ops fl js fl al [] []) (killS ops (fl++al) (stripAll (coreIds C p ops fl js al y) y)) c).map fun r=>keepR lv (mapL endOp r) else none
    match go true with
    | some r=>some r
    | none=>go false
   | .seq a b=>match cmp C n p (.code f a lc.a { lv with n:=lc.l }) y c with
    | some r=>thenL r fun lf c=>match lf.e with
     | .norm=>cmp C n p (.code f b lc.b lv) lf.s c
     | e=>some (one e .dead lf.s c)
    | none=>none
   | .cond cd a b=>match y.get cd with
    | some (.e .bool (.bool true))=>cmp C n p (.code f a lc.a lv) y c
    | some (.e .bool (.bool false))=>cmp C n p (.code f b lc.b lv) y c
    | some (.e .bool x)=>match cmp C n p (.code f a lc.a lv) y c with
     | some r1=>match cmp C n p (.code f b lc.b lv) y r1.c with
      | some r2=>mergeAll y.g false <| keepR lv ⟨.ite x (shiftT 0 r1.L.length r1.t) (shiftT r1.L.length r2.L.length r2.t),r1.L++r2.L,r2.c,r1.log++r2.log⟩
      | none=>none
     | none=>none
    | _=>none
   | .block id b=>match cmp C n p (.code f b lc.a { lv with ex:=(id,lv.n)::lv.ex }) y c with
    | some r=>mergeAll y.g false <| keepR lv (mapL (fun lf=>match lf.e with | .exit i=>if i=id then { lf with e:=.norm } else lf | _=>lf) r)
    | none=>none
   | .loop b=>match headY y.g (C.hl c) (keepTs lc.l (prepY (hIds (C.hl c)) (hCv (C.hl c)) y)) with
    | (yL,ps,init)=>if fitsY y.g.length init (prepY (hIds (C.hl c)) (hCv (C.hl c)) y) yL=true∧yL.g=y.g++ps then (match cmp C n p (.code f b lc.a { lv with n:=lc.l }) yL (c+1) with
     | some r=>loopR y.g (C.hl c) yL ps init c (keepR { lv with n:=lc.l } r)
     | none=>none) else none
   | .rangeFunc g ps a b=>match y.get g with
    | some (.fn gf cap) =>
     let l:=[c,f]
     if rdOKS y && !(rdsS y).contains (some l)&&(lookN l y.lp).isNone && !y.ylds l && !SV.yldsL l cap&&callable C.P gf then (match C.P.funcs[gf]? with
      | some fn=>match fn.body with
       | some cb=>if (SV.yld l::cap).length≤fn.ntmps∧fn.results = #[] then (match cmp C n [c] (.code gf cb (annot cb lv0).2 lv0) (y.loopIn l fn.ntmps (.yld l::cap) ⟨y.sv.length,ps,a,b,none⟩) (c+1) with
        | some r=>match endL r with
         | some r=>match mergeAll y.g false r with
          | some r=>(thenL r fun lf c=>if lf.s.sv.length=y.sv.length+1∧lpD' lf.s.lp=(l,y.sv.length)::lpD' y.lp∧isThr lf.e=false then (match lf.s.lp with
           | (_,q)::_=>match q.pending with
            | none=>some (one .norm .dead (lf.s.loopOutR y.rd) c)
            | some (some (.exit i))=>some (one (.exit i) .dead (lf.s.loopOutR y.rd) c)
            | some (some .ret)=>some (one .ret .dead (lf.s.loopOutR y.rd) c)
            | _=>none
           | []=>none) else none)
          | none=>none
         | none=>none
        | none=>none) else none
       | none=>none
      | none=>none) else none
    | _=>none
   | _=>none
  | .ops f all l=>match l with
   | []=>some (one .norm .dead y c)
   | o::rest=>match thrOp C.P o rest with
    | some (t,x)=>if dstOK y.n o.dst=true then (match y.get x with
    | some z=>some (one (.thr t) z (y.put o.dst .dead) c)
    | none=>none) else none
    | none=>match oneOp C.P C.tbo p all y o with
    | some (bs,y1)=>(cmp C n p (.ops f all rest) y1 c).map fun r=>{ r with t:=binds bs r.t }
    | none=>orSoft C c <| if dstOK y.n o.dst=true then (match o.guard with
     | none=>callOp C (cmp C n) p f all rest o y c
     | some (j,want)=>match (all[j]?).bind (·.dst) with
      | some t=>match lkS t y.ts with
       | .e .bool (.bool b)=>if b=want then callOp C (cmp C n) p f all rest o y c else none
       | .e .bool x=>match callOp C (cmp C n) p f all rest o (openY (if want then x else .p1 .not x) { y with ts:=setS t (.e .bool (.bool want)) y.ts }) c with
        | some r1=>match cmp C n p (.ops f all rest) ((shutY (if want then x else .p1 .not x) { y with ts:=setS t (.e .bool (.bool !want)) y.ts }).put o.dst (.tup [])) r1.c with
         | some r2=>some ⟨if want then .ite x (shiftT 0 r1.L.length r1.t) (shiftT r1.L.length r2.L.length r2.t) else .ite x (shiftT r1.L.length r2.L.length r2.t) (shiftT 0 r1.L.length r1.t),r1.L++r2.L,r2.c,r1.log++r2.log⟩
         | none=>none
        | none=>none
       | _=>none
      | none=>none) else none
  | .core f all fl0 js fl al V0 hbs =>
   let nw:=newV all fl0 js fl al (V0.map (·.1))
   match segRS C p all nw (putAllS all y V0) with
   | none=>none
   | some (bs,hn,y2) =>
    let V:=V0++nw.map fun q=>(q,lkDS (dstOf all q) y2)
    let y:={ y with g:=y2.g }
    match js with
    | []=>if stS C.P p all fl0 [] fl al V y=true then some ⟨binds bs (.hole 0),[⟨.norm,.dead,adoptS C.P all p al (putAllS all y V)⟩],c,[]⟩ else none
    | j::js=>match all[j]? with
     | some oj =>
      let N:=need all fl0.reverse (aft oj)
      let V1:=V.filter fun q=>!N.contains q.1
      let H1:=(hn++hbs).filter fun q=>!N.contains q.1
      if stS C.P p all fl0 (j::js) fl al V y=true then (match cmp C n p (.ops f all [oj]) (adoptS C.P all p (al.filter N.contains) (putAllS all y (V.filter fun q=>N.contains q.1))) c with
       | some r=>(thenL r (passT fun lf c=>match cmp C n p (.core f all fl0 js (fl.filter fun q=>!N.contains q) (al.filter fun x=>!N.contains x) V1 H1) lf.s c with
        | some r=>if keepCS all V1 V H1 oj.dst y (adoptS C.P all p (al.filter N.contains) (putAllS all y (V.filter fun q=>N.contains q.1))) lf.s=true then some r else some { r with t:=.fail }
        | none=>none)).map fun r=>{ r with t:=binds bs r.t }
       | none=>none) else none
     | none=>none
  | .call g args=>match quick C p g args y with
   | some (bs,y1,z1)=>some ⟨binds bs (.hole 0),[⟨.norm,z1,y1⟩],c,[]⟩
   | none=>match softAt C g args y with
   | some (i,u,q)=>cmp C n p (.call g (SV.softL i u q args)) (y.soft i) c
   | none=>match C.sp g with
   | some (.hand K)=>match C.P.funcs[g]? with
    | some fn=>if args.length≤fn.ntmps then handR C (cmp C n) K g fn.ntmps fn.results.toList args y c else none
    | none=>none
   | _=>match C.P.funcs[g]? with
   | some fn=>match fn.body with
    | some cb=>if args.length≤fn.ntmps then (match cmp C n [c] (.code g cb (annot cb (lvF fn.results.toList)).2 (lvF fn.results.toList)) (y.push fn.ntmps args) (c+1) with
     | some r=>match endL r with
      | some r=>match mergeAll y.g false r with
       | some r=>thenL r fun lf c=>if lf.s.sv.length=y.sv.length+1∧lpD' lf.s.lp=lpD' y.lp then (match lf.e with
        | .thr t=>some (one (.thr t) (lkS (lf.s.n - 1) lf.s.ts) lf.s.pop c)
        | _=>match resV C.P lf.s fn.results.toList with
        | some vs=>some (one .norm (mkResS vs) lf.s.pop c)
        | none=>none) else none
       | none=>none
      | none=>none
     | none=>none) else none
    | none=>none
   | none=>none
  | .yld l args=>match lookN l y.lp with
   | some q=>match (framesS y).reverse[q.depth]? with
    | some f=>if isH l=false∧q.ps.toList.all (fun t=>decide (t<f.n))=true∧args.length=q.ps.size then (match cmp C n [c] (.code (ownerOf' l) q.assign (annot q.assign ⟨readsN q.body [],[],[]⟩).2 ⟨readsN q.body [],[],[]⟩) (y.round l f q.ps.toList args) (c+1) with
     | some r1=>thenL r1 fun lf c=>match lf.e with
      | .norm=>match lookN l lf.s.lp with
       | some q1=>if q1.pending.isNone then (match cmp C n [c] (.code (ownerOf' l) q.body (annot q.body lv0).2 lv0) (lf.s.setLp l { q1 with pending:=some none }) (c+1) with
        | some r2=>match mergeAll lf.s.g false r2 with
         | some r2=>thenL r2 fun lf c=>if lf.s.sv.length=y.sv.length+1∧lpD' lf.s.lp=lpD' y.lp∧isThr lf.e=false then (match lookN l lf.s.lp with
          | some q2=>some (one .norm (.e .bool (.bool (goesOn' lf.e))) (lf.s.setLp l { q2 with pending:=jmp lf.e }).pop c)
          | none=>none) else none
         | none=>none
        | none=>none) else none
       | none=>none
      | _=>none
     | none=>none) else none
    | none=>none
   | none=>none
def outE (P:Program) (ts:List TypeId):List SV→Option (List (Ty×E))
 | []=>match ts with | []=>some [] | _=>none
 | z::zs=>match ts with
  | t::ts=>match asE (tyD P t) z,outE P ts zs with
   | some r,some rs=>match r.1.ag with
    | some _=>some (r::rs)
    | none=>none
   | _,_=>none
  | []=>none
def tupE:List (Ty×E)→Ty×E
 | []=>(.unit,.zero .unit)
 | [r]=>r
 | r::rs=>match tupE rs with | (t,x)=>(.prod r.1 t,.p2 .pair r.2 x)
def varsE:Nat→List Ty→List SV
 | _,[]=>[]
 | i,t::ts=>.e t (.var i)::varsE (i+1) ts
def startY (as:List Ty) (nt:Nat):Sy:={ g:=as,rd:=none,n:=nt,ts:=argS 0 (varsE 0 as),sv:=[],bx:=[],lp:=[],ow:=[],vc:=[] }
def softLf (lf:Leaf):Leaf:={ lf with s:=softAll (lf.s.vc.map (·.1)) lf.s }
def outT (P:Program) (rs:List ResultVar) (rt:List TypeId) (rty:Ty):List Leaf→Option (List T)
 | []=>some []
 | lf::L=>match resV P lf.s rs with
  | some vs=>match outE P rt vs with
   | some es=>match tupE es with
    | (t,x)=>if t=rty∧isThr lf.e=false then (outT P rs rt rty L).map fun ts=>.jump 0 [x]::ts else none
   | none=>none
  | none=>none
def cmpF (C:Cx) (fuel:Nat) (g:FuncId) (as:List Ty) (rty:Ty):Option (T×Log) :=
 match C.P.funcs[g]? with
 | some fn=>match fn.body with
  | some cb=>if as.length≤fn.ntmps∧as.all Ty.noMp=true then (match cmp C fuel [0] (.code g cb (annot cb (lvF fn.results.toList)).2 (lvF fn.results.toList)) (startY as fn.ntmps) 1 with
   | some r=>match endL r with
    | some r=>match outT C.P fn.results.toList fn.resultTypes.toList rty (r.L.map softLf) with
     | some ts=>some ((r.t.lift 0).sub (fun i=>ts.getD i .fail),r.log)
     | none=>none
    | none=>none
   | none=>none) else none
  | none=>none
 | none=>none
def baseY (w:Ty) (as:List Ty):Sy:={ g:=.sl w::as,rd:=none,n:=1,ts:=[(0,.vsl nm0)],sv:=[],bx:=[],lp:=[],ow:=[nm0],vc:=[(nm0,(w,.var 0))] }
def isBase (y:Sy):Bool:=match y.sv with
 | [f]=>(match lkS 0 f.ts with | .vsl n=>decide (n=nm0) | _=>false)&&decide (lpD' y.lp=[])
 | _=>false
def turnOut (P:Program) (rs:List ResultVar) (rt:List TypeId) (w rty:Ty):List Leaf→Option (List T)
 | []=>some []
 | lf::L=>match resV P lf.s rs,lookN nm0 lf.s.vc with
  | some vs,some (u,q)=>match outE P rt vs with
   | some es=>if (tupE es).1=rty∧u=w∧isBase lf.s=true∧isThr lf.e=false then (turnOut P rs rt w rty L).map fun ts=>.jump 0 [.p2 .pair q (tupE es).2]::ts else none
   | none=>none
  | _,_=>none
def cmpT (C:Cx) (fuel:Nat) (g:FuncId) (w:Ty) (as:List Ty) (rty:Ty):Option (T×Log) :=
 match C.P.funcs[g]? with
 | some fn=>match fn.body with
  | some cb=>if as.length+1≤fn.ntmps∧w.noMp=true∧as.all Ty.noMp=true then (match cmp C fuel [0] (.code g cb (annot cb (lvF fn.results.toList)).2 (lvF fn.results.toList)) ((baseY w as).push fn.ntmps (.vsl nm0::varsE 1 as)) 1 with
   | some r=>match endL r with
    | some r=>match turnOut C.P fn.results.toList fn.resultTypes.toList w rty r.L with
     | some ts=>some ((r.t.lift 0).sub (fun i=>ts.getD i .fail),r.log)
     | none=>none
    | none=>none
   | none=>none) else none
  | none=>none
 | none=>none
end Go.Tx
namespace Go.Tx
open Go Go.Ab
section
variable {P:Program} {S:Sems} {CS:Calls'} {env:List Val} {y:Sy} {s:Sa} {p:Name}
theorem InstK.argS:∀ {xs:List SV} {vs:List V} (i:Nat),InstL env xs vs→InstK env (Tx.argS i xs) (argTs i vs)
 | [],vs,i,h=>by simp only [InstL] at h;subst h;rfl
 | x::xs,vs,i,h=>by
  simp only [InstL] at h
  obtain ⟨v,vs',rfl,h2,h3⟩:=h
  exact ⟨v,_,rfl,h2,InstK.argS (i+1) h3⟩
theorem Inst.push (h:Inst env y s) (n:Nat) {args:List SV} {vs:List V} (ha:InstL env args vs):Inst env (y.push n args) (s.push n (argTs 0 vs)) :=
 ⟨h.g,rfl,rfl,InstK.argS 0 ha,⟨_,_,rfl,h.rd,h.n,h.ts,h.sv⟩,h.bx,h.lp,h.ow,h.vc⟩
theorem Inst.pop (h:Inst env y s):Inst env y.pop s.pop:=by
 unfold Sy.pop Sa.pop
 have:=h.sv
 cases hy:y.sv with
 | nil=>rw [hy] at this;simp only [InstF] at this;rw [this];exact h
 | cons f fs =>
  rw [hy] at this
  simp only [InstF] at this
  obtain ⟨g,l',e,e1,e2,e3,e4⟩:=this
  rw [e]
  exact ⟨h.g,e1,e2,e3,e4,h.bx,h.lp,h.ow,h.vc⟩
theorem Inst.loopIn (h:Inst env y s) (l:Name) (n:Nat) {args:List SV} {vs:List V} (ha:InstL env args vs) (q:Lp):Inst env (y.loopIn l n args q) (s.loopIn l n vs q) :=
 ⟨h.g,rfl,rfl,InstK.argS 0 ha,⟨_,_,rfl,rfl,h.n,h.ts,h.sv⟩,h.bx,by simp only [Sa.loopIn,Sy.loopIn,h.lp],h.ow,h.vc⟩
theorem Inst.loopOut (h:Inst env y s):Inst env y.loopOut s.loopOut:=by
 unfold Sy.loopOut Sa.loopOut
 have:=h.sv
 cases hy:y.sv with
 | nil=>rw [hy] at this;simp only [InstF] at this;rw [this];exact h
 | cons f fs =>
  rw [hy] at this
  simp only [InstF] at this
  obtain ⟨g,l',e,e1,e2,e3,e4⟩:=this
  rw [e]
  exact ⟨h.g,rfl,e2,e3,e4,h.bx,by simp only [h.lp],h.ow,h.vc⟩
theorem Inst.loopOutR (h:Inst env y s) (r:Option Name):Inst env (y.loopOutR r) (s.loopOutR r):=by
 unfold Sy.loopOutR Sa.loopOutR
 have:=h.sv
 cases hy:y.sv with
 | nil=>rw [hy] at this;simp only [InstF] at this;rw [this];exact h
 | cons f fs =>
  rw [hy] at this
  simp only [InstF] at this
  obtain ⟨g,l',e,e1,e2,e3,e4⟩:=this
  rw [e]
  exact ⟨h.g,rfl,e2,e3,e4,h.bx,by simp only [h.lp],h.ow,h.vc⟩
theorem Inst.setLp (h:Inst env y s) (l:Name) (q:Lp):Inst env (y.setLp l q) (Ab.setLp s l q) :=
 ⟨h.g,h.rd,h.n,h.ts,h.sv,h.bx,by simp only [Ab.setLp,Sy.setLp,h.lp],h.ow,h.vc⟩
theorem InstK.setAll:∀ (ps:List Nat) {xs:List SV} {vs:List V} {l:List (Nat×SV)} {us:List (Nat×V)},InstL env xs vs→InstK env l us→InstK env (setAllS ps xs l) (Ab.setAll ps vs us)
 | [],xs,vs,l,us,h,hk=>by cases xs <;> cases vs <;> exact hk
 | t::ps,[],vs,l,us,h,hk=>by simp only [InstL] at h;subst h;exact hk
 | t::ps,x::xs,vs,l,us,h,hk=>by
  simp only [InstL] at h
  obtain ⟨v,vs',rfl,h2,h3⟩:=h
  exact InstK.setAll ps h3 (hk.set h2)
theorem InstF.get:∀ {xs:List SFr} {vs:List Fr},InstF env xs vs→∀ {i:Nat} {f:SFr},xs[i]? = some f→∃ g,vs[i]? = some g∧g.rd=f.rd∧g.n=f.n∧InstK env f.ts g.ts
 | [],vs,h,i,f,hf=>by simp at hf
 | x::xs,vs,h,i,f,hf=>by
  simp only [InstF] at h
  obtain ⟨g,l',rfl,h1,h2,h3,h4⟩:=h
  cases i with
  | zero=>simp at hf;subst hf;exact ⟨g,by simp,h1,h2,h3⟩
  | succ i=>simpa using h4.get (by simpa using hf)
theorem Inst.frames (h:Inst env y s):InstF env (framesS y) (Ab.frames s):=⟨_,_,rfl,h.rd,h.n,h.ts,h.sv⟩
theorem Inst.frame (h:Inst env y s) {d:Nat} {f:SFr} (hf:(framesS y).reverse[d]? = some f):∃ g,(Ab.frames s).reverse[d]? = some g∧g.n=f.n∧InstK env f.ts g.ts:=by
 have hl:=h.frames.len
 obtain ⟨hd,e⟩:=List.getElem?_eq_some_iff.1 hf
 rw [List.getElem_reverse] at e
 simp only [List.length_reverse] at hd
 obtain ⟨g,g1,_,g2,g3⟩:=h.frames.get (i:=(framesS y).length - 1 - d) (f:=f) (List.getElem?_eq_some_iff.2 ⟨by omega,e⟩)
 refine ⟨g,?_,g2,g3⟩
 rw [List.getElem?_reverse (by omega),hl];exact g1
theorem Inst.round (h:Inst env y s) (l:Name) {f:SFr} {g:Fr} (hn:g.n=f.n) (hk:InstK env f.ts g.ts) (ps:List Nat) {args:List SV} {vs:List V} (ha:InstL env args vs):Inst env (y.round l f ps args) (s.round l g ps vs) :=
 ⟨h.g,rfl,hn,InstK.setAll ps ha hk,⟨_,_,rfl,h.rd,h.n,h.ts,h.sv⟩,h.bx,h.lp,h.ow,h.vc⟩
theorem resV_ok:∀ {rs:List ResultVar} {vs:List SV} {K:List V→Prop},resV P y rs=some vs→Inst env y s→(∀ us,InstL env vs us→K us)→resK P s rs K
 | [],vs,K,h,hI,hK=>by cases h;exact hK [] rfl
 | .tmp t::rs,vs,K,h,hI,hK=>by
  obtain ⟨vs',h1,rfl⟩:=Option.map_eq_some_iff.1 h
  exact resV_ok (K:=fun us=>K (lkT t s.ts::us)) h1 hI fun us hu=>hK _ ⟨_,_,rfl,hI.ts.lk,hu⟩
 | .cell a t::rs,vs,K,h,hI,hK=>by
  simp only [resV] at h
  simp only [resK]
  split at h
  ·rename_i ag hag
   simp only [hag]
   split at h
   ·rename_i hc
    refine ⟨fun e=>by rcases hc with hc | hc <;> first | exact hc | (rw [e] at hc;cases hc),?_⟩
    split at h
    ·rename_i nm off ha
     have hl:=hI.ts.lk (t:=a)
     rw [ha] at hl
     simp only [InstV] at hl
     simp only [hl]
     split at h
     ·rename_i c hc
      obtain ⟨b,e1,e2⟩:=(hI.bx.look (n:=nm)).1 hc
      simp only [e1]
      split at h
      ·rename_i z hz
       obtain ⟨vs',h1,rfl⟩:=Option.map_eq_some_iff.1 h
       obtain ⟨k1,k2⟩:=loadC_ok hz e2
       exact ⟨k2,resV_ok (K:=fun us=>K (loadBox ag off (tsz P t) b::us)) h1 hI fun us hu=>hK _ ⟨_,_,rfl,k1,hu⟩⟩
      ·cases h
     ·cases h
    ·cases h
   ·cases h
  ·cases h
theorem mkResS_ok {xs:List SV} {us:List V} (h:InstL env xs us):InstV env (mkResS xs) (mkRes us):=by
 match xs,us,h with
 | [],us,h=>simp only [InstL] at h;subst h;exact ⟨[],rfl,rfl⟩
 | [x],us,h =>
  simp only [InstL] at h
  obtain ⟨v,vs',rfl,h2,rfl⟩:=h
  exact h2
 | x::x' :: xs,us,h =>
  have h':=h
  simp only [InstL] at h
  obtain ⟨v,vs',rfl,h2,v2,vs2,rfl,h3,h4⟩:=h
  exact ⟨_,rfl,h'⟩
theorem InstK.filter {q:Nat→Bool}:∀ {l:List (Nat×SV)} {us:List (Nat×V)},InstK env l us→InstK env (l.filter fun x=>q x.1) (us.filter fun x=>q x.1)
 | [],us,h=>by simp only [InstK] at h;subst h;rfl
 | (k,x)::l,us,h=>by
  simp only [InstK] at h
  obtain ⟨v,us',rfl,h2,h3⟩:=h
  simp only [List.filter_cons]
  split
  ·exact ⟨_,_,rfl,h2,h3.filter⟩
  ·exact h3.filter
theorem lkT_filter {q:Nat→Bool} (t:Nat):∀ (us:List (Nat×V)),lkT t (us.filter fun x=>q x.1)=lkT t us∨lkT t (us.filter fun x=>q x.1) = .dead
 | []=>.inl rfl
 | (k,x)::us=>by
  simp only [List.filter_cons]
  split
  ·simp only [lkT]
   split
   ·exact .inl rfl
   ·exact lkT_filter t us
  ·rename_i hq
   simp only [lkT]
   split
   ·rename_i e;subst e
    right
    have:∀ (l:List (Nat×V)),lkT k (l.filter fun x=>q x.1) = .dead:=by
     intro l
     induction l with
     | nil=>rfl
     | cons z l ih =>
      obtain ⟨a,b⟩:=z
      simp only [List.filter_cons]
      split
      ·rename_i ha
       simp only [lkT]
       split
       ·rename_i e;subst e;exact absurd ha hq
       ·exact ih
      ·exact ih
    exact this us
   ·exact lkT_filter t us
theorem keepTs_ok (kp:List Nat) (h:Inst env y s):∃ s',Wk s s' ∧ Inst env (keepTs kp y) s' :=
 ⟨{ s with ts:=s.ts.filter fun x=>memN x.1 kp },Wk.of rfl rfl rfl (fun t=>lkT_filter (q:=fun t=>memN t kp) t s.ts) rfl (fun _ _ h=>h) (fun _ h=>h) (fun _ _ h=>⟨h,id⟩),h.g,h.rd,h.n,h.ts.filter (q:=fun t=>memN t kp),h.sv,h.bx.normK,h.lp,h.ow,h.vc⟩
theorem keepR_ok {lv:Lv} {r:Res} {R:Ex→Sa→Prop} (h:(keepR lv r).t.sat CS noJ (LQ (keepR lv r).L fun lf e=>∀ s',Inst e lf.s s' → R lf.e s') env) :
  r.t.sat CS noJ (LQ r.L fun lf e=>∀ s',Inst e lf.s s' → ∃ s'',Wk s' s'' ∧ R lf.e s'') env:=by
 refine T.sat_mono (fun _ _ h=>h) ?_ h
 rintro i e ⟨lf,h1,h2⟩
 simp only [keepR,List.getElem?_map] at h1
 obtain ⟨lf0,h3,h4⟩:=Option.map_eq_some_iff.1 h1
 subst h4
 refine ⟨lf0,h3,fun s' hs=>?_⟩
 obtain ⟨s2,w2,i2⟩:=keepTs_ok (lvX lv lf0) hs
 exact ⟨s2,w2,h2 s2 i2⟩
theorem sat_binds:∀ {bs:Bs} {t:T} {J:Jt} {Q:Nat→List Val→Prop} {env:List Val},(binds bs t).sat CS J Q env=okBs CS bs env (fun e=>t.sat CS J Q e)
 | [],t,J,Q,env=>rfl
 | b::bs,t,J,Q,env=>by
  simp only [binds,T.sat,okBs]
  congr 1;funext v
  rw [sat_binds]
theorem sat_shift {k n:Nat} {t:T} {J:Jt} {Q:Nat→List Val→Prop} {env:List Val} (h:(shiftT k n t).sat CS J Q env):t.sat CS J (fun i e=>i<n∧Q (i+k) e) env:=by
 rw [shiftT,T.sat_sub] at h
 refine T.sat_mono (fun _ _ h=>h) ?_ h
 intro i e hq
 split at hq
 ·rename_i hi;exact ⟨hi,hq⟩
 ·exact hq.elim
theorem contL_ok {f:Leaf→Nat→Option Res}:∀ {L:List Leaf} {off c:Nat} {ts:List T} {Ls:List Leaf} {c2:Nat} {lg:Log},contL f L off c=some (ts,Ls,c2,lg) →
  (∀ (i:Nat) (lf:Leaf),L[i]? = some lf→∃ (c1:Nat) (r1:Res) (t1:T),f lf c1=some r1∧ts[i]? = some t1∧∀ {J:Jt} {Q:Leaf→List Val→Prop} {env:List Val},t1.sat CS J (fun h e=>off≤h→LQ Ls Q (h - off) e) env→r1.t.sat CS J (LQ r1.L Q) env) ∧
  (∀ lf' ∈ Ls,∃ lf∈L,∃ (c1:Nat) (r1:Res),f lf c1=some r1∧lf' ∈ r1.L)∧ts.length=L.length
 | [],off,c,ts,Ls,c2,lg,h=>by cases h;exact ⟨fun i lf h=>by simp at h,fun lf h=>by simp at h,rfl⟩
 | lf::L,off,c,ts,Ls,c2,lg,h=>by
  simp only [contL] at h
  split at h
  ·rename_i r hr
   split at h
   ·rename_i ts' Ls' c2' lg' hc
    cases h
    obtain ⟨k1,k2,k3⟩:=contL_ok hc
    refine ⟨fun i lf' hl=>?_,fun lf' hm=>?_,by simp [k3]⟩
    ·cases i with
     | zero =>
      simp at hl;subst hl
      refine ⟨c,r,_,hr,List.getElem?_cons_zero,fun {J Q env} hs=>?_⟩
      split at hs
      ·rename_i e
       obtain ⟨e1,e2⟩:=e
       have hL:L=[]:=by cases L <;> simp_all
       subst hL;subst e1
       cases hc
       refine T.sat_mono (fun _ _ h=>h) ?_ hs
       intro j e hq
       have:=hq (Nat.zero_le _)
       rw [List.append_nil] at this
       exact this
      ·refine T.sat_mono (fun _ _ h=>h) ?_ (sat_shift hs)
       rintro j e ⟨hj,hq⟩
       obtain ⟨lf2,h2,h3⟩:=hq (by omega)
       rw [Nat.add_sub_cancel,List.getElem?_append_left hj] at h2
       exact ⟨lf2,h2,h3⟩
     | succ i =>
      obtain ⟨c1,r1,t1,e1,e2,e3⟩:=k1 i lf' (by simpa using hl)
      refine ⟨c1,r1,t1,e1,by simpa using e2,fun hs=>e3 (T.sat_mono (fun _ _ h=>h) ?_ hs)⟩
      intro j e hq hle
      obtain ⟨lf2,h2,h3⟩:=hq (by omega)
      rw [List.getElem?_append_right (by omega)] at h2
      exact ⟨lf2,by rw [← h2];congr 1;omega,h3⟩
    ·rcases List.mem_append.1 hm with hm | hm
     ·exact ⟨lf,List.mem_cons_self,c,r,hr,hm⟩
     ·obtain ⟨lf2,h1,c1,r1,h2,h3⟩:=k2 lf' hm
      exact ⟨lf2,List.mem_cons_of_mem _ h1,c1,r1,h2,h3⟩
   ·cases h
  ·cases h
theorem thenL_ok {r r' : Res} {f:Leaf→Nat→Option Res} (h:thenL r f=some r') :
  (∀ {J:Jt} {Q:Leaf→List Val→Prop} {env:List Val},r'.t.sat CS J (LQ r'.L Q) env→r.t.sat CS J (LQ r.L fun lf e=>∃ (c1:Nat) (r1:Res),f lf c1=some r1∧r1.t.sat CS J (LQ r1.L Q) e) env) ∧
  ∀ lf' ∈ r'.L,∃ lf∈r.L,∃ (c1:Nat) (r1:Res),f lf c1=some r1∧lf' ∈ r1.L:=by
 unfold thenL at h
 split at h
 ·rename_i ts Ls c lg hc
  cases h
  obtain ⟨k1,k2,k3⟩:=contL_ok (CS:=CS) hc
  refine ⟨fun {J Q env} hs=>?_,k2⟩
  rw [T.sat_sub] at hs
  refine T.sat_mono (fun _ _ h=>h) ?_ hs
  intro i e hq
  cases hts:ts[i]? with
  | none=>simp [List.getD_eq_getElem?_getD,hts,T.sat] at hq
  | some tt =>
   simp only [List.getD_eq_getElem?_getD,hts,Option.getD_some] at hq
   have hi:i<r.L.length:=by rw [← k3];exact (List.getElem?_eq_some_iff.1 hts).1
   refine ⟨r.L[i],List.getElem?_eq_getElem hi,?_⟩
   obtain ⟨c1,r1,t1,e1,e2,e3⟩:=k1 i _ (List.getElem?_eq_getElem hi)
   rw [hts] at e2;cases e2
   exact ⟨c1,r1,e1,e3 (T.sat_mono (fun _ _ h=>h) (fun _ _ h _=>h) hq)⟩
 ·cases h
end
end Go.Tx
namespace Go.Tx
open Go Go.Ab
section
variable {P:Program} {S:Sems} {CS:Calls'} {env:List Val} {y:Sy} {s:Sa} {p:Name}
theorem put_lpS {d:Option Tmp} {z:SV}:(y.put d z).lp=y.lp:=by cases d <;> rfl
theorem claim_lpS {i:Name} {sz:Option Nat} {et:Option Ty} {x z:SV} {y' : Sy} (h:y.claim i sz et x=some (z,y')):y'.lp=y.lp:=by
 cases x <;> simp only [Sy.claim,reduceCtorEq] at h
 case nil =>
  split at h
  ·split at h
   ·split at h
    ·cases h;rfl
    ·cases h
   ·cases h
  ·cases h;rfl
 all_goals (cases h;rfl)
theorem newS_lp {d:Nat} {dst:Option Tmp} {sz:Option Nat} {et:Option Ty} {z:SV} {bs:Bs} {y' : Sy} (h:newS y d p dst sz et z=some (bs,y')):y'.lp=y.lp:=by
 unfold newS at h
 split at h
 ·rename_i z' y1 hc
  split at h
  ·cases h;rw [put_lpS];show y1.lp=_;exact claim_lpS hc
  ·cases h
 ·cases h
theorem storeP_lp {dst:Option Tmp} {t:TypeId} {n:Name} {off:Nat} {v:SV} {bs:Bs} {y' : Sy} (h:storeP P y dst t n off v=some (bs,y')):y'.lp=y.lp:=by
 unfold storeP at h
 split at h
 ·split at h
  ·rename_i v' y1 hc
   split at h
   ·split at h
    ·split at h
     ·cases h;rw [put_lpS];show y1.lp=_;exact claim_lpS hc
     ·cases h
    ·cases h
   ·cases h
  ·cases h
 ·cases h
theorem storeA_lp {dst:Option Tmp} {t:TypeId} {n:Name} {off m:Nat} {u:Ty} {i:E} {inn:Nat} {v:SV} {bs:Bs} {y' : Sy} (h:storeA P y dst t n off m u i inn v=some (bs,y')):y'.lp=y.lp:=by
 unfold storeA at h
 split at h
 ·rename_i w e
  split at h
  ·rename_i b x hb
   split at h
   ·rename_i z hz
    simp only at h
    split at h
    ·split at h
     ·split at h
      ·cases h;rw [put_lpS];rfl
      ·split at h
       ·cases h;rw [put_lpS];rfl
       ·cases h
     ·split at h
      ·split at h
       ·cases hq:(if off=0∧b = .arr m u then some (b,E.var (y.g.length+1)) else (ty2 (.upd off) b (.arr m u)).map fun b'=>(b',E.p2 (.upd off) x (.var (y.g.length+1)))) with
        | none=>rw [hq] at h;cases h
        | some q=>rw [hq] at h;cases h;rw [put_lpS];rfl
       ·cases h
      ·cases h
    ·cases h
   ·cases h
  ·cases h
 ·cases h
theorem appendS_lp {dst:Option Tmp} {t u:TypeId} {a b:SV} {bs:Bs} {y' : Sy} (h:appendS P p y dst t u a b=some (bs,y')):y'.lp=y.lp:=by
 unfold appendS at h
 repeat' (split at h)
 all_goals first
  | (cases h;done)
  | (cases h;rw [put_lpS];rfl)
theorem stOp_lp {o:Oper} {bs:Bs} {y' : Sy} (h:stOp P p y o=some (bs,y')):y'.lp=y.lp:=by
 unfold stOp at h
 simp only at h
 split at h
 ·split at h
  ·split at h
   ·rename_i hc;cases h;rw [put_lpS];exact claim_lpS hc
   ·cases h
  ·cases h
 ·split at h
  ·split at h
   ·exact newS_lp h
   ·cases h
  ·cases h
 ·split at h
  ·split at h
   ·exact newS_lp h
   ·cases h
  ·cases h
 ·split at h
  ·exact storeP_lp h
  ·exact storeA_lp h
  ·cases h
 ·split at h
  ·split at h
   ·split at h
    ·rename_i hc;cases h;rw [put_lpS];exact claim_lpS hc
    ·cases h
   ·cases h
  ·cases h
 ·split at h
  ·split at h
   ·split at h
    ·cases h;rw [put_lpS]
    ·cases h
   ·cases h
  ·cases h
 ·split at h
  ·split at h
   ·split at h
    ·cases h;rw [put_lpS]
    ·cases h
   ·cases h
  ·cases h
 ·split at h
  ·split at h
   ·split at h
    ·exact appendS_lp h
    ·cases h
   ·cases h
  ·cases h
 ·cases h
theorem vecOp_lp {o:Oper} {bs:Bs} {y' : Sy} (h:vecOp P p y o=some (bs,y')):y'.lp=y.lp:=by
 unfold vecOp at h
 simp only at h
 split at h
 ·cases h;rw [put_lpS];rfl
 split at h
 ·split at h
  ·split at h
   ·split at h
    ·split at h
     ·cases h;rw [put_lpS];rfl
     ·split at h
      ·cases h;rw [put_lpS];rfl
      ·cases h
    ·cases h
   ·cases h
  ·cases h
 ·split at h
  ·split at h
   ·split at h
    ·split at h
     ·split at h
      ·cases h;rw [put_lpS]
      ·cases h
     ·cases h
    ·cases h
   ·cases h
  ·split at h
   ·split at h
    ·split at h
     ·split at h
      ·cases h;rw [put_lpS];rfl
      ·cases h
     ·cases h
    ·cases h
   ·cases h
  ·cases h
 ·cases h
theorem opS_lp {tb:Tab} {o:Oper} {bs:Bs} {y' : Sy} (h:opS P tb p y o=some (bs,y')):y'.lp=y.lp:=by
 unfold opS at h
 split at h
 ·cases h;rw [put_lpS];rfl
 ·split at h
  ·rename_i r hst
   cases h
   exact stOp_lp hst
  ·exact vecOp_lp h
theorem opG_lp {tb:Tab} {o:Oper} {gs:List E} {bs:Bs} {y' : Sy} (h:opG P tb y o gs=some (bs,y')):y'.lp=y.lp:=by
 unfold opG at h
 repeat' (split at h)
 all_goals first | (cases h;done) | (cases h;rw [put_lpS];rfl)
theorem oneOp_lp {tb:Tab} {ops:Array Oper} {o:Oper} {bs:Bs} {y' : Sy} (h:oneOp P tb p ops y o=some (bs,y')):y'.lp=y.lp:=by
 unfold oneOp at h
 split at h
 ·split at h
  ·exact opS_lp h
  ·split at h
   ·split at h
    ·split at h
     ·exact opS_lp h
     ·cases h;rw [put_lpS]
    ·exact opG_lp h
    ·exact opG_lp h
    ·cases h;rw [put_lpS]
    ·cases h
   ·cases h
 ·cases h
theorem pop_lpS:y.pop.lp=y.lp:=by unfold Sy.pop;split <;> rfl
theorem loopOutR_lpS {r:Option Name} {x:Name×Lp} {l:List (Name×Lp)} (h:y.lp=x::l) (hs:y.sv≠[]):(y.loopOutR r).lp=l:=by
 unfold Sy.loopOutR
 split
 ·simp [h]
 ·contradiction
theorem lpS_setN {nm:Name} {q q' : Lp} (h:q'.depth=q.depth∧q'.ps=q.ps∧q'.assign=q.assign∧q'.body=q.body):∀ {l:List (Name×Lp)},lookN nm l=some q→lpS (Ab.setN nm q' l)=lpS l
 | [],_=>rfl
 | (n1,q1)::l,hl=>by
  simp only [lookN] at hl
  simp only [Ab.setN]
  split at hl
  ·rename_i e;cases hl;rw [if_pos e];simp only [lpS,List.map_cons,e,h]
  ·rename_i e;rw [if_neg e]
   simp only [lpS,List.map_cons]
   have:=lpS_setN h hl
   simp only [lpS] at this
   rw [this]
theorem lpS_look {l l' : List (Name×Lp)} (h:lpS l=lpS l') {nm:Name} {q:Lp} (hq:lookN nm l=some q):∃ q',lookN nm l' = some q' ∧ q'.depth=q.depth∧q'.ps=q.ps∧q'.assign=q.assign∧q'.body=q.body:=by
 induction l generalizing l' with
 | nil=>cases hq
 | cons x l ih =>
  cases l' with
  | nil=>simp [lpS] at h
  | cons y l' =>
   obtain ⟨x1,x2⟩:=x
   obtain ⟨y1,y2⟩:=y
   simp only [lpS,List.map_cons,List.cons.injEq,Prod.mk.injEq] at h
   obtain ⟨⟨rfl,h2,h3,h4,h5⟩,h6⟩:=h
   simp only [lookN] at hq ⊢
   split at hq
   ·rename_i e;rw [if_pos e];cases hq;exact ⟨y2,rfl,h2.symm,h3.symm,h4.symm,h5.symm⟩
   ·rename_i e;rw [if_neg e];exact ih h6 hq
theorem joinY_lp {g0:List Ty} {ys:List Sy} {j:Join} (h:joinY g0 ys=some j):∃ y∈ys,j.y.lp=y.lp:=by
 unfold joinY at h
 split at h
 ·cases h
 ·rename_i y rest
  simp only at h
  split at h
  ·cases h
  ·rename_i z zs hz
   cases h
   refine ⟨y,List.mem_cons_self,?_⟩
   rw [List.map_cons,List.map_cons] at hz
   simp only [List.cons.injEq] at hz
   rw [← hz.1]
   exact stripAll_lp
abbrev WkQ (R:Ex→Sa→Prop):Ex→Sa→Prop:=fun e s=>∃ s',Wk s s' ∧ R e s'
theorem wkQ_wkQ {R:Ex→Sa→Prop} {e:Ex} {s:Sa} (h:WkQ (WkQ R) e s):WkQ R e s:=by
 obtain ⟨s1,w1,s2,w2,h⟩:=h
 exact ⟨s2,Wk_trans w1 w2,h⟩
abbrev leafQ (R:Ex→Sa→Prop):Leaf→List Val→Prop:=fun lf e=>∀ s',Inst e lf.s s' → R lf.e s'
theorem leafQ_mono {R R' : Ex→Sa→Prop} (h:∀ e s,R e s→R' e s) {t:T} {L:List Leaf} {J:Jt} (hs:t.sat CS J (LQ L (leafQ R)) env):t.sat CS J (LQ L (leafQ R')) env :=
 T.sat_mono (fun _ _ h=>h) (fun i e ⟨lf,h1,h2⟩=>⟨lf,h1,fun s' hs=>h _ _ (h2 s' hs)⟩) hs
theorem leafQ_refl {R:Ex→Sa→Prop} {t:T} {L:List Leaf} {J:Jt} (hs:t.sat CS J (LQ L (leafQ R)) env):t.sat CS J (LQ L (leafQ (WkQ R))) env :=
 leafQ_mono (fun e s h=>⟨s,Wk.refl,h⟩) hs
theorem mergeOne_lp {g0:List Ty} {force:Bool} {rep:Leaf} {r r' : Res} (h:mergeOne g0 force rep r=some r') {base:List (Name×Lp)} (hlp:∀ lf∈r.L,lpS lf.s.lp=lpS base):∀ lf∈r'.L,lpS lf.s.lp=lpS base:=by
 unfold mergeOne at h
 simp only at h
 split at h
 ·cases h;exact hlp
 ·split at h
  ·rename_i j hj
   split at h
   ·split at h
    ·rename_i t L hgl
     cases h
     obtain ⟨y,hy,hyl⟩:=joinY_lp hj
     obtain ⟨lf0,hlf0,rfl⟩:=List.mem_map.1 hy
     have h0:=hlp lf0 (List.mem_filter.1 hlf0).1
     have hjl:lpS j.y.lp=lpS base:=by rw [hyl];exact h0
     intro lf hlf
     unfold glue at hgl
     split at hgl
     ·rename_i ts os hsg
      cases hgl
      rcases List.mem_cons.1 hlf with rfl | hlf
      ·exact hjl
      ·exact hlp lf (sigma_mem hsg lf hlf)
     ·cases hgl
    ·cases h
   ·cases h
  ·cases h
theorem mergeOne_ok (hCS:CallsWf CS) {g0:List Ty} {force:Bool} {rep:Leaf} {r r' : Res} (h:mergeOne g0 force rep r=some r') (hg:env.map (·.1)=g0) (hw:EnvWf env) {base:List (Name×Lp)} (hlp:∀ lf∈r.L,lpS lf.s.lp=lpS base) :
  (∀ lf∈r'.L,lpS lf.s.lp=lpS base)∧∀ {R:Ex→Sa→Prop},r'.t.sat CS noJ (LQ r'.L (leafQ R)) env→r.t.sat CS noJ (LQ r.L (leafQ (WkQ R))) env:=by
 unfold mergeOne at h
 simp only at h
 split at h
 ·cases h;exact ⟨hlp,leafQ_refl⟩
 ·split at h
  ·rename_i j hj
   split at h
   ·rename_i hgj
    split at h
    ·rename_i t L hgl
     cases h
     obtain ⟨y,hy,hyl⟩:=joinY_lp hj
     obtain ⟨lf0,hlf0,rfl⟩:=List.mem_map.1 hy
     have h0:=hlp lf0 (List.mem_filter.1 hlf0).1
     have hjl:lpS j.y.lp=lpS base:=by rw [hyl];exact h0
     refine ⟨fun lf hlf=>?_,fun {R} hs=>glue_ok (Q:=fun _ _=>True) hCS hgl (by rw [← hg,List.length_map]) hw (by rw [hgj,hg]) (fun lf hl=>by rw [hlp lf hl,hjl]) hs⟩
     unfold glue at hgl
     split at hgl
     ·rename_i ts os hsg
      cases hgl
      rcases List.mem_cons.1 hlf with rfl | hlf
      ·exact hjl
      ·exact hlp lf (sigma_mem hsg lf hlf)
     ·cases hgl
    ·cases h
   ·cases h
  ·cases h
def mergeStep (g0:List Ty) (force:Bool) (acc:Option Res) (rep:Leaf):Option Res:=match acc with | some r=>mergeOne g0 force rep r | none=>none
theorem mergeStep_none {g0:List Ty} {force:Bool}:∀ (l:List Leaf),l.foldl (mergeStep g0 force) none=none
 | []=>rfl
 | a::l=>mergeStep_none l
theorem mergeAll_ok (hCS:CallsWf CS) {g0:List Ty} {force:Bool} {r r' : Res} (h:mergeAll g0 force r=some r') (hg:env.map (·.1)=g0) (hw:EnvWf env) {base:List (Name×Lp)} (hlp:∀ lf∈r.L,lpS lf.s.lp=lpS base) :
  (∀ lf∈r'.L,lpS lf.s.lp=lpS base)∧∀ {R:Ex→Sa→Prop},r'.t.sat CS noJ (LQ r'.L (leafQ R)) env→r.t.sat CS noJ (LQ r.L (leafQ (WkQ R))) env:=by
 change (classes r.L []).foldl (mergeStep g0 force) (some r)=some r' at h
 generalize classes r.L []=cl at h
 induction cl generalizing r with
 | nil=>cases h;exact ⟨hlp,leafQ_refl⟩
 | cons rep cl ih =>
  rw [List.foldl_cons] at h
  cases h1:mergeOne g0 force rep r with
  | none =>
   have e:mergeStep g0 force (some r) rep=none:=h1
   rw [e,mergeStep_none] at h;cases h
  | some r1 =>
   have e:mergeStep g0 force (some r) rep=some r1:=h1
   rw [e] at h
   obtain ⟨k1,k2⟩:=mergeOne_ok hCS h1 hg hw hlp
   obtain ⟨g1,g2⟩:=ih k1 h
   exact ⟨g1,fun hs=>leafQ_mono (fun e s h=>wkQ_wkQ h) (k2 (g2 hs))⟩
theorem mergeAll_lp {g0:List Ty} {force:Bool} {r r' : Res} (h:mergeAll g0 force r=some r') {base:List (Name×Lp)} (hlp:∀ lf∈r.L,lpS lf.s.lp=lpS base):∀ lf∈r'.L,lpS lf.s.lp=lpS base:=by
 change (classes r.L []).foldl (mergeStep g0 force) (some r)=some r' at h
 generalize classes r.L []=cl at h
 induction cl generalizing r with
 | nil=>cases h;exact hlp
 | cons rep cl ih =>
  rw [List.foldl_cons] at h
  cases h1:mergeOne g0 force rep r with
  | none =>
   have e:mergeStep g0 force (some r) rep=none:=h1
   rw [e,mergeStep_none] at h;cases h
  | some r1 =>
   have e:mergeStep g0 force (some r) rep=some r1:=h1
   rw [e] at h
   exact ih (mergeOne_lp h1 hlp) h
theorem loopT_ok (hCS:CallsWf CS) {b:Code} {yL:Sy} {ps:List Ty} {init:List E} {r:Res} {as:List (List E)} {ts:List T} {os:List Leaf} {ids:List Name} {cv:Cv} (hg:env.map (·.1)=y.g) (hgL:yL.g=y.g++ps) (hw:EnvWf env)
  (hbody:∀ env' s',Inst env' yL s' → EnvWf env' → ∀ R,r.t.sat CS noJ (LQ r.L (leafQ R)) env' → TC P p b s' R) (hlp:∀ lf∈r.L,lpS lf.s.lp=lpS yL.lp)
  (hsg:sigma y.g.length ids cv yL ⟨.norm,.dead,yL⟩ r.L as 0=some (ts,os)) (hI:Inst env y s) (hnn:∀ lf∈os,isNorm lf.e=false) (hf:fitsY y.g.length init y yL=true) (hlpL:lpS y.lp=lpS yL.lp) {R:Ex→Sa→Prop}
  (hs:(T.loop ps init ((r.t.lift 0).sub fun i=>ts.getD i .fail)).sat CS noJ (LQ os (leafQ R)) env):TC P p (.loop b) s R:=by
 have hn:env.length=y.g.length:=by rw [← hg,List.length_map]
 simp only [T.sat] at hs
 obtain ⟨n,vs,hv,hrep⟩:=hs
 have hlen:ts.length=r.L.length:=by
  have:∀ {L:List Leaf} {as:List (List E)} {k:Nat} {ts:List T} {os:List Leaf},sigma y.g.length ids cv yL ⟨.norm,.dead,yL⟩ L as k=some (ts,os)→ts.length=L.length:=by
   intro L
   induction L with
   | nil=>intro as k ts os h;cases h;rfl
   | cons x L ih =>
    intro as k ts os h
    simp only [sigma] at h
    split at h
    ·split at h
     ·split at h
      ·obtain ⟨⟨ts',os'⟩,h1,h2⟩:=Option.map_eq_some_iff.1 h
       cases h2;simp [ih h1]
      ·cases h
     ·cases h
    ·obtain ⟨⟨ts',os'⟩,h1,h2⟩:=Option.map_eq_some_iff.1 h
     cases h2;simp [ih h1]
  exact this hsg
 have start:∃ s0,Wk s s0∧Inst (env++vs) yL s0:=by
  have hI' : Inst (env++[]) y s:=by rw [List.append_nil];exact hI
  have hv' : evs (env++[]) init=some vs:=by rw [List.append_nil];exact hv
  refine fitsY_ok (by rw [hn];exact hf) hlpL hI' hv' ?_
  cases n with
  | zero=>exact hrep.elim
  | succ n=>rw [List.map_append,hrep.1,hg,hgL]
 obtain ⟨s0,w0,i0⟩:=start
 refine TC.weaken w0 ?_
 have hwv:=evs_wf hw hv
 refine TC_loopU (fun (x:{ x:Nat×List Val×Sa // repeatN ps (fun again vs=>((r.t.lift 0).sub fun i=>ts.getD i .fail).sat CS (consJ again noJ) (LQ os (leafQ R)) (env++vs)) x.1 x.2.1∧Inst (env++x.2.1) yL x.2.2∧WfL x.2.1 })=>x.1.2.2) (fun x=>x.1.1) ?_ ⟨(n,vs,s0),hrep,i0,hwv⟩
 rintro ⟨⟨n,vs,s1⟩,hrep,hI1,hwv⟩
 simp only at hrep hI1 hwv
 cases n with
 | zero=>exact hrep.elim
 | succ n =>
  obtain ⟨hps,hbd⟩:=hrep
  rw [T.sat_sub,T.sat_lift,cut_zero] at hbd
  have hwe:EnvWf (env++vs):=hw.app hwv
  have hbd2:=T.sat_ext hCS hwe hbd
  refine TC_post ?_
  refine hbody (env++vs) s1 hI1 hwe _ ?_
  refine T.sat_mono (fun _ _ h=>h.2) ?_ hbd2
  rintro i e ⟨⟨l,rfl⟩,he,hq⟩
  cases hts:ts[i]? with
  | none=>simp [List.getD_eq_getElem?_getD,hts,T.sat] at hq
  | some tt =>
   simp only [List.getD_eq_getElem?_getD,hts,Option.getD_some] at hq
   have hi:i<r.L.length:=by rw [← hlen];exact (List.getElem?_eq_some_iff.1 hts).1
   refine ⟨r.L[i],List.getElem?_eq_getElem hi,?_⟩
   rcases sigma_ok hsg (List.getElem?_eq_getElem hi) with ⟨a,g1,g2,g3⟩ | ⟨j,g1,g2⟩
   ·rw [hts] at g1
    cases g1
    simp only [T.sat] at hq
    obtain ⟨us,hus,hag⟩:=hq
    intro s' hs'
    obtain ⟨s2,w2,i2⟩:=prepY_ok (ids:=ids) (cv:=cv) hs'
    have hrep' : repeatN ps (fun again vs=>((r.t.lift 0).sub fun i=>ts.getD i .fail).sat CS (consJ again noJ) (LQ os (leafQ R)) (env++vs)) n us:=hag
    have hgu:(env++us).map (·.1)=yL.g:=by
     rw [List.map_append,hg,hgL]
     cases n with
     | zero=>exact hrep'.elim
     | succ n=>rw [hrep'.1]
    rw [List.append_assoc] at i2 hus
    obtain ⟨s3,w3,i3⟩:=fitsY_ok (by rw [hn];exact g3) (by rw [prepY_lp];exact hlp _ (List.getElem_mem hi)) i2 hus hgu
    refine ⟨s3,Wk_trans w2 w3,?_⟩
    simp only at g2
    rw [g2]
    exact ⟨⟨(n,us,s3),hrep',i3,evs_wf (by rw [← List.append_assoc];exact he) hus⟩,Wk.refl,Nat.lt_succ_self n⟩
   ·rw [hts] at g1
    cases g1
    simp only [T.sat] at hq
    obtain ⟨lf,hlf,hR⟩:=hq
    rw [Nat.zero_add] at hlf
    rw [g2] at hlf
    cases hlf
    intro s' hs'
    refine ⟨s',Wk.refl,?_⟩
    have hr:=hR s' hs'
    have hno:=hnn _ (List.mem_iff_getElem?.2 ⟨_,g2⟩)
    split
    ·rename_i e;rw [e] at hno;cases hno
    ·exact hr
end
end Go.Tx
namespace Go.Tx
open Go Go.Ab
section
variable {P:Program} {CS:Calls'} {env:List Val} {y:Sy} {s:Sa} {p:Name}
def valQ (k:V→Sa→Prop) (kt:TypeId→V→Sa→Prop):Leaf→List Val→Prop:=fun lf e=>match lf.e with
 | .thr t=>∀ s' v,Inst e lf.s s' → InstV e lf.v v→kt t v s'
 | _=>∀ s' v,Inst e lf.s s' → InstV e lf.v v→k v s'
def opsQ (k:Sa→Prop) (kt:TypeId→V→Sa→Prop):Leaf→List Val→Prop:=fun lf e=>match lf.e with
 | .thr t=>∀ s' v,Inst e lf.s s' → InstV e lf.v v→kt t v s'
 | _=>∀ s',Inst e lf.s s' → k s'
def InstH (env:List Val):List (Nat×Sy)→List (Nat×Sa)→Prop
 | [],l=>l=[]
 | h::hs,l=>∃ x xs,l=x::xs∧x.1=h.1∧InstK env h.2.bx x.2.bx∧InstC env h.2.vc x.2.vc∧InstH env hs xs
theorem InstH.app (l:List Val):∀ {hs:List (Nat×Sy)} {xs:List (Nat×Sa)},InstH env hs xs→InstH (env++l) hs xs
 | [],xs,h=>h
 | h::hs,xs,⟨x,r,e,h0,h1,h2,h3⟩=>⟨x,r,e,h0,h1.app l,h2.app l,h3.app l⟩
theorem InstH.append:∀ {hs hs' : List (Nat×Sy)} {xs xs' : List (Nat×Sa)},InstH env hs xs→InstH env hs' xs' → InstH env (hs++hs') (xs++xs')
 | [],hs',xs,xs',h,h'=>by simp only [InstH] at h;subst h;exact h'
 | h::hs,hs',xs,xs',⟨x,r,e,h0,h1,h2,h3⟩,h'=>by subst e;exact ⟨x,_,rfl,h0,h1,h2,InstH.append h3 h'⟩
theorem InstH.filter {q:Nat→Bool}:∀ {hs:List (Nat×Sy)} {xs:List (Nat×Sa)},InstH env hs xs→InstH env (hs.filter fun x=>q x.1) (xs.filter fun x=>q x.1)
 | [],xs,h=>by simp only [InstH] at h;subst h;rfl
 | h::hs,xs,⟨x,r,e,h0,h1,h2,h3⟩=>by
  subst e
  simp only [List.filter_cons,h0]
  split
  ·exact ⟨x,_,rfl,h0,h1,h2,InstH.filter h3⟩
  ·exact InstH.filter h3
theorem InstH.mem:∀ {hs:List (Nat×Sy)} {xs:List (Nat×Sa)},InstH env hs xs→∀ x∈xs,∃ h∈hs,InstK env h.2.bx x.2.bx∧InstC env h.2.vc x.2.vc
 | [],xs,h,x,hx=>by simp only [InstH] at h;subst h;cases hx
 | h::hs,xs,⟨x',r,e,h0,h1,h2,h3⟩,x,hx=>by
  subst e
  rcases List.mem_cons.1 hx with rfl | hx
  ·exact ⟨h,List.mem_cons_self,h1,h2⟩
  ·obtain ⟨h',g1,g2⟩:=InstH.mem h3 x hx
   exact ⟨h',List.mem_cons_of_mem _ g1,g2⟩
def Goal (P:Program) (p:Name):Task→Sa→List Val→Res→Prop
 | .code f cd _ _,s,env,r=>∀ R,r.t.sat (CallV P) noJ (LQ r.L (leafQ R)) env→TC P p cd s R
 | .ops f all l,s,env,r=>∀ (k:Sa→Prop) kt,r.t.sat (CallV P) noJ (LQ r.L (opsQ k kt)) env→evOps P (semsT P kt) p all l s k
 | .core f all fl0 js fl al V0 hbs,s,env,r=>∀ (W0:List (Nat×V)) (hs:List (Nat×Sa)) (k:Sa→Prop) kt,InstK env V0 W0→InstH env hbs hs→r.t.sat (CallV P) noJ (LQ r.L (opsQ k kt)) env→evCore P kt p all fl0 js fl al W0 hs s k
 | .call g args,s,env,r=>∀ vs k kt,InstL env args vs→r.t.sat (CallV P) noJ (LQ r.L (valQ k kt)) env→TCallT P kt p g vs s k
 | .yld l args,s,env,r=>∀ vs k kt,InstL env args vs→r.t.sat (CallV P) noJ (LQ r.L (valQ k kt)) env→TYld P p l vs s k
structure Snd (P:Program) (p:Name) (t:Task) (y:Sy) (r:Res):Prop where
 lp:∀ lf∈r.L,lpS lf.s.lp=lpS y.lp
 go:∀ env s,Inst env y s→EnvWf env→Goal P p t s env r
theorem mapL_sat {f:Leaf→Leaf} {r:Res} {J:Jt} {Q:Leaf→List Val→Prop} (h:(mapL f r).t.sat CS J (LQ (mapL f r).L Q) env):r.t.sat CS J (LQ r.L fun lf e=>Q (f lf) e) env:=by
 refine T.sat_mono (fun _ _ h=>h) ?_ h
 rintro i e ⟨lf,h1,h2⟩
 simp only [mapL,List.getElem?_map] at h1
 obtain ⟨lf0,h3,rfl⟩:=Option.map_eq_some_iff.1 h1
 exact ⟨lf0,h3,h2⟩
theorem lq_mono {L:List Leaf} {Q Q' : Leaf→List Val→Prop} {J:Jt} {t:T} (h:∀ lf∈L,∀ e,Q lf e→Q' lf e) (hs:t.sat CS J (LQ L Q) env):t.sat CS J (LQ L Q') env :=
 T.sat_mono (fun _ _ h=>h) (fun i e ⟨lf,h1,h2⟩=>⟨lf,h1,h lf (List.mem_iff_getElem?.2 ⟨i,h1⟩) e h2⟩) hs
theorem sat_wf {L:List Leaf} {Q:Leaf→List Val→Prop} {t:T} (hw:EnvWf env) (h:t.sat (CallV P) noJ (LQ L Q) env):t.sat (CallV P) noJ (LQ L fun lf e=>EnvWf e∧Q lf e) env :=
 T.sat_mono (fun j vs h=>h.2) (fun i e ⟨_,hw,lf,h1,h2⟩=>⟨lf,h1,hw,h2⟩) (T.sat_ext callV_wf hw h)
theorem then_sat {r r' : Res} {f:Leaf→Nat→Option Res} {Q:Leaf→List Val→Prop} (h:thenL r f=some r') (hw:EnvWf env) (hs:r'.t.sat (CallV P) noJ (LQ r'.L Q) env) :
  r.t.sat (CallV P) noJ (LQ r.L fun lf e=>EnvWf e∧∃ c1 r1,f lf c1=some r1∧r1.t.sat (CallV P) noJ (LQ r1.L Q) e) env :=
 sat_wf hw ((thenL_ok (CS:=CallV P) h).1 hs)
theorem then_mem {r r' : Res} {f:Leaf→Nat→Option Res} (h:thenL r f=some r'):∀ lf' ∈ r'.L,∃ lf∈r.L,∃ c1 r1,f lf c1=some r1∧lf' ∈ r1.L :=
 (thenL_ok (CS:=fun _ _ _=>False) h).2
theorem one_sat {e:Ex} {v:SV} {c:Nat} {Q:Leaf→List Val→Prop} {J:Jt} (h:(one e v y c).t.sat CS J (LQ (one e v y c).L Q) env):Q ⟨e,v,y⟩ env:=by
 obtain ⟨lf,h1,h2⟩:=h
 simp [one] at h1
 subst h1;exact h2
theorem one_mem {e:Ex} {v:SV} {c:Nat} {lf:Leaf} (h:lf∈(one e v y c).L):lf=⟨e,v,y⟩:=by simpa [one] using h
theorem shift_l {t1:T} {L1 L2:List Leaf} {Q:Leaf→List Val→Prop} {J:Jt} (h:(shiftT 0 L1.length t1).sat CS J (LQ (L1++L2) Q) env):t1.sat CS J (LQ L1 Q) env:=by
 refine T.sat_mono (fun _ _ h=>h) ?_ (sat_shift h)
 rintro i e ⟨hi,lf,h1,h2⟩
 rw [Nat.add_zero,List.getElem?_append_left hi] at h1
 exact ⟨lf,h1,h2⟩
theorem shift_r {t2:T} {L1 L2:List Leaf} {Q:Leaf→List Val→Prop} {J:Jt} (h:(shiftT L1.length L2.length t2).sat CS J (LQ (L1++L2) Q) env):t2.sat CS J (LQ L2 Q) env:=by
 refine T.sat_mono (fun _ _ h=>h) ?_ (sat_shift h)
 rintro i e ⟨hi,lf,h1,h2⟩
 rw [List.getElem?_append_right (by omega),Nat.add_sub_cancel] at h1
 exact ⟨lf,h1,h2⟩
theorem keepR_lp {lv:Lv} {r:Res} {base:List (Name×Lp)} (h:∀ lf∈r.L,lpS lf.s.lp=lpS base):∀ lf∈(keepR lv r).L,lpS lf.s.lp=lpS base:=by
 intro lf hl
 simp only [keepR,List.mem_map] at hl
 obtain ⟨lf0,h0,rfl⟩:=hl
 exact h lf0 h0
theorem mapL_lp {f:Leaf→Leaf} {r:Res} {base:List (Name×Lp)} (hf:∀ lf,(f lf).s.lp=lf.s.lp) (h:∀ lf∈r.L,lpS lf.s.lp=lpS base):∀ lf∈(mapL f r).L,lpS lf.s.lp=lpS base:=by
 intro lf hl
 simp only [mapL,List.mem_map] at hl
 obtain ⟨lf0,h0,rfl⟩:=hl
 rw [hf];exact h lf0 h0
theorem claimR_ok {cl:List (Name×Nat×Ty×Bool)} {r:Res} {R:Ex→Sa→Prop} (h:(claimR cl r).t.sat CS noJ (LQ (claimR cl r).L (leafQ R)) env):r.t.sat CS noJ (LQ r.L (leafQ (WkQ R))) env:=by
 refine T.sat_mono (fun _ _ h=>h) ?_ h
 rintro i e ⟨lf,h1,h2⟩
 simp only [claimR,List.getElem?_map] at h1
 obtain ⟨lf0,h3,h4⟩:=Option.map_eq_some_iff.1 h1
 subst h4
 refine ⟨lf0,h3,fun s' hs=>?_⟩
 obtain ⟨s2,w2,i2⟩:=claimAll_ok (l:=cl) hs
 exact ⟨s2,w2,h2 s2 i2⟩
theorem claimR_lp {cl:List (Name×Nat×Ty×Bool)} {r:Res} {base:List (Name×Lp)} (h:∀ lf∈r.L,lpS lf.s.lp=lpS base):∀ lf∈(claimR cl r).L,lpS lf.s.lp=lpS base:=by
 intro lf hl
 simp only [claimR,List.mem_map] at hl
 obtain ⟨lf0,h0,rfl⟩:=hl
 rw [claimAll_lp];exact h lf0 h0
theorem Inst.thrown {z:SV} {v:V} (hI:Inst env y s) (hv:InstV env z v):Inst env (y.thrown z) (s.thrown v):=by
 have h:=(hI.put (some y.n) hv).ts
 refine ⟨hI.g,hI.rd,by simp only [Sa.thrown,Sy.thrown,hI.n],?_,hI.sv,hI.bx,hI.lp,hI.ow,hI.vc⟩
 simp only [Sa.thrown,Sy.thrown,hI.n]
 exact h
theorem endOp_lp (lf:Leaf):(endOp lf).s.lp=lf.s.lp:=by unfold endOp;split <;> rfl
theorem endOp_ok {r:Res} {R:Ex→Sa→Prop} (h:(mapL endOp r).t.sat CS noJ (LQ (mapL endOp r).L (leafQ R)) env):r.t.sat CS noJ (LQ r.L (opsQ (R .norm) (thrQ R))) env:=by
 refine lq_mono (fun lf _ e hq=>?_) (mapL_sat h)
 simp only [leafQ,endOp] at hq
 unfold opsQ
 cases he:lf.e with
 | thr t=>rw [he] at hq;exact fun s' v hs hv=>hq _ (hs.thrown hv)
 | norm=>rw [he] at hq;exact fun s' hs=>hq s' hs
 | ret=>rw [he] at hq;exact fun s' hs=>hq s' hs
 | exit i=>rw [he] at hq;exact fun s' hs=>hq s' hs
theorem Snd.skip {f:FuncId} {lc:LC} {lv:Lv} {c:Nat}:Snd P p (.code f .skip lc lv) y (one .norm .dead y c) :=
 ⟨fun lf h=>by rw [one_mem h],fun env s hI hw R hs=>TC_skip (one_sat hs s hI)⟩
theorem Snd.label {f:FuncId} {lc:LC} {lv:Lv} {c l:Nat}:Snd P p (.code f (.label l) lc lv) y (one .norm .dead y c) :=
 ⟨fun lf h=>by rw [one_mem h],fun env s hI hw R hs=>TC_label (one_sat hs s hI)⟩
theorem Snd.scope {f:FuncId} {b:Code} {lc lb:LC} {lv:Lv} {r:Res} (H:Snd P p (.code f b lb lv) y r):Snd P p (.code f (.scope b) lc lv) y r :=
 ⟨H.lp,fun env s hI hw R hs=>TC_scope (H.go env s hI hw R hs)⟩
theorem Snd.exit {f:FuncId} {lc:LC} {lv:Lv} {c i:Nat}:Snd P p (.code f (.exit i) lc lv) y (one (.exit i) .dead y c) :=
 ⟨fun lf h=>by rw [one_mem h],fun env s hI hw R hs=>TC_exit (one_sat hs s hI)⟩
theorem Snd.ret {f:FuncId} {lc:LC} {lv:Lv} {c:Nat}:Snd P p (.code f .ret lc lv) y (one .ret .dead y c) :=
 ⟨fun lf h=>by rw [one_mem h],fun env s hI hw R hs=>TC_ret (one_sat hs s hI)⟩
theorem Snd.region {f:FuncId} {lc:LC} {lv:Lv} {id:Nat} {ops:Array Oper} {r:Res} {cl:List (Name×Nat×Ty×Bool)} (H:Snd P p (.ops f ops ops.toList) y r) :
  Snd P p (.code f (.region id ops false) lc lv) y (keepR lv (claimR cl (mapL endOp r))) :=
 ⟨keepR_lp (claimR_lp (mapL_lp endOp_lp H.lp)),fun env s hI hw R hs=>TC_post (TC_post (TC_region (H.go env s hI hw _ _ (endOp_ok (R:=WkQ (WkQ R)) (claimR_ok (keepR_ok hs))))))⟩
theorem Snd.seq {f:FuncId} {a b:Code} {lc la lb:LC} {lv lva lvb:Lv} {r r' : Res} {F:Leaf→Nat→Option Res} (H:Snd P p (.code f a la lva) y r) (h:thenL r F=some r')
  (hF:∀ lf c r1,lf.e = .norm→F lf c=some r1→Snd P p (.code f b lb lvb) lf.s r1) (hF' : ∀ lf c r1,lf.e ≠ .norm→F lf c=some r1→r1=one lf.e .dead lf.s c) :
  Snd P p (.code f (.seq a b) lc lv) y r':=by
 constructor
 ·intro lf' hl
  obtain ⟨lf,h1,c1,r1,h2,h3⟩:=then_mem h lf' hl
  by_cases e:lf.e = .norm
  ·rw [(hF lf c1 r1 e h2).lp _ h3];exact H.lp _ h1
  ·have:=hF' lf c1 r1 e h2;subst this
   rw [one_mem h3];exact H.lp lf h1
 ·intro env s hI hw R hs
  refine TC_seq (H.go env s hI hw _ (lq_mono ?_ (then_sat h hw hs)))
  rintro lf hlf e ⟨hwe,c1,r1,h1,h2⟩ s' hs'
  cases he:lf.e with
  | norm=>exact (hF lf c1 r1 he h1).go e s' hs' hwe R h2
  | ret =>
   have:=hF' lf c1 r1 (by rw [he];intro h;cases h) h1;subst this
   have h3:=one_sat h2 s' hs'
   rw [he] at h3;exact h3
  | exit i =>
   have:=hF' lf c1 r1 (by rw [he];intro h;cases h) h1;subst this
   have h3:=one_sat h2 s' hs'
   rw [he] at h3;exact h3
  | thr t =>
   have:=hF' lf c1 r1 (by rw [he];intro h;cases h) h1;subst this
   have h3:=one_sat h2 s' hs'
   rw [he] at h3;exact h3
theorem get_bool {cd:Operand} {b:Bool} (hI:Inst env y s) (hc:y.get cd=some (.e .bool (.bool b))):s.get cd = .d (.v (.bool b)):=by
 have:=hI.get hc
 simp only [InstV] at this
 obtain ⟨a,h1,h2⟩:=this
 cases h1
 rw [h2,encD_bool]
theorem Snd.cond_k {f:FuncId} {cd:Operand} {a b:Code} {lc lc' : LC} {lv:Lv} {r:Res} {w:Bool} (hc:y.get cd=some (.e .bool (.bool w))) (H:Snd P p (.code f (if w then a else b) lc' lv) y r) :
  Snd P p (.code f (.cond cd a b) lc lv) y r :=
 ⟨H.lp,fun env s hI hw R hs=>TC_cond (get_bool hI hc) (by
  cases w with
  | true=>simp only [caseB_true];exact H.go env s hI hw R hs
  | false=>simp only [caseB_false];exact H.go env s hI hw R hs)⟩
theorem Snd.cond {f:FuncId} {cd:Operand} {a b:Code} {lc la lb:LC} {lv:Lv} {r1 r2 r:Res} {x:E} {c:Nat} {lg:Log} (hc:y.get cd=some (.e .bool x)) (H1:Snd P p (.code f a la lv) y r1) (H2:Snd P p (.code f b lb lv) y r2)
  (h:mergeAll y.g false (keepR lv ⟨.ite x (shiftT 0 r1.L.length r1.t) (shiftT r1.L.length r2.L.length r2.t),r1.L++r2.L,c,lg⟩)=some r):Snd P p (.code f (.cond cd a b) lc lv) y r:=by
 have hlp:∀ lf∈(keepR lv ⟨.ite x (shiftT 0 r1.L.length r1.t) (shiftT r1.L.length r2.L.length r2.t),r1.L++r2.L,c,lg⟩).L,lpS lf.s.lp=lpS y.lp :=
  keepR_lp fun lf hl=>(List.mem_append.1 hl).elim (H1.lp lf) (H2.lp lf)
 refine ⟨mergeAll_lp h hlp,fun env s hI hw R hs=>?_⟩
 have h1:=keepR_ok ((mergeAll_ok callV_wf h hI.g hw hlp).2 hs)
 simp only [T.sat] at h1
 obtain ⟨w,hx,ht,hf⟩:=h1
 have hv:=hI.get hc
 simp only [InstV] at hv
 obtain ⟨w',h2,h3⟩:=hv
 rw [hx] at h2;cases h2
 rw [encD_bool] at h3
 refine TC_post (TC_post (TC_cond h3 ⟨fun e=>H1.go env s hI hw _ (shift_l (ht e)),fun e=>H2.go env s hI hw _ (shift_r (hf e))⟩))
theorem Snd.block {f:FuncId} {id:Nat} {b:Code} {lc lb:LC} {lv lvb:Lv} {r r' : Res} (H:Snd P p (.code f b lb lvb) y r)
  (h:mergeAll y.g false (keepR lv (mapL (fun lf=>match lf.e with | .exit i=>if i=id then { lf with e:=.norm } else lf | _=>lf) r))=some r'):Snd P p (.code f (.block id b) lc lv) y r':=by
 have hlp:∀ lf∈(keepR lv (mapL (fun lf=>match lf.e with | .exit i=>if i=id then { lf with e:=.norm } else lf | _=>lf) r)).L,lpS lf.s.lp=lpS y.lp :=
  keepR_lp (mapL_lp (fun lf=>by
   split
   ·split <;> rfl
   ·rfl) H.lp)
 refine ⟨mergeAll_lp h hlp,fun env s hI hw R hs=>?_⟩
 have h1:=mapL_sat (keepR_ok ((mergeAll_ok callV_wf h hI.g hw hlp).2 hs))
 refine TC_post (TC_post (TC_block (H.go env s hI hw _ (lq_mono ?_ h1))))
 intro lf hlf e hq s' hs'
 cases he:lf.e with
 | norm=>rw [he] at hq;simp only [he] at hq;exact hq s' hs'
 | ret=>rw [he] at hq;simp only [he] at hq;exact hq s' hs'
 | thr t=>rw [he] at hq;simp only [he] at hq;exact hq s' hs'
 | exit i =>
  rw [he] at hq
  simp only at hq
  by_cases e:i=id
  ·rw [if_pos e] at hq
   simp only [if_pos e]
   exact hq s' hs'
  ·rw [if_neg e] at hq
   simp only [if_neg e]
   have:=hq s' hs'
   rw [he] at this
   exact this
theorem prepY_g {ids:List Name} {cv:Cv}:(prepY ids cv y).g=y.g:=by
 have:∀ (ids:List Name) (y:Sy),(stripAll ids y).g=y.g:=by
  intro ids
  induction ids with
  | nil=>intro y;rfl
  | cons i ids ih=>intro y;exact (ih _).trans prepOne_g
 exact this ids y
theorem headY_lp {g0:List Ty} {h:Option Hint}:(headY g0 h y).1.lp=y.lp:=by
 unfold headY
 rfl
theorem Snd.loop {f:FuncId} {b:Code} {lc lb:LC} {lv lvb:Lv} {hh:Option Hint} {yL:Sy} {ps:List Ty} {init:List E} {c0:Nat} {r r' : Res} (hhd:yL.lp=y.lp)
  (hf:fitsY y.g.length init (prepY (hIds hh) (hCv hh) y) yL=true) (hgL:yL.g=y.g++ps) (H:Snd P p (.code f b lb lvb) yL r) (h:loopR y.g hh yL ps init c0 (keepR lvb r)=some r'):Snd P p (.code f (.loop b) lc lv) y r':=by
 unfold loopR at h
 have hlpk:=keepR_lp (lv:=lvb) H.lp
 split at h
 ·rename_i ts os hsg
  split at h
  ·rename_i hnn
   have hnn' : ∀ lf∈os,isNorm lf.e=false:=fun lf hl=>by
    have:=(List.all_eq_true.1 hnn) lf hl
    simpa using this
   have hlp:∀ lf∈os,lpS lf.s.lp=lpS y.lp:=fun lf hl=>by rw [← hhd];exact hlpk lf (sigma_mem hsg lf hl)
   refine ⟨mergeAll_lp h hlp,fun env s hI hw R hs=>?_⟩
   obtain ⟨s1,w1,i1⟩:=prepY_ok (ids:=hIds hh) (cv:=hCv hh) hI
   refine TC_post (TC.weaken w1 (loopT_ok (y:=prepY (hIds hh) (hCv hh) y) callV_wf i1.g (by rw [prepY_g];exact hgL) hw (r:=keepR lvb r) ?_ hlpk (by rw [prepY_g];exact hsg) i1 hnn' (by rw [prepY_g];exact hf) (by rw [hhd,prepY_lp]) ((mergeAll_ok callV_wf h hI.g hw hlp).2 hs)))
   intro env' s' hI' hw' R' hs'
   exact TC_post (H.go env' s' hI' hw' _ (keepR_ok hs'))
  ·cases h
 ·have hlp:∀ lf∈((keepR lvb r).L.filter fun lf=>!isNorm lf.e),lpS lf.s.lp=lpS y.lp:=fun lf hl=>by rw [← hhd];exact hlpk lf (List.mem_filter.1 hl).1
  refine ⟨mergeAll_lp h hlp,fun env s hI hw R hs=>?_⟩
  have:=(mergeAll_ok callV_wf h hI.g hw hlp).2 hs
  exact this.elim
end
end Go.Tx
namespace Go.Tx
open Go Go.Ab
section
variable {P:Program} {CS:Calls'} {env:List Val} {y:Sy} {s:Sa} {p:Name}
theorem okBs_wf' (hCS:CallsWf CS):∀ {bs:Bs} {env:List Val} {F:List Val→Prop},EnvWf env→okBs CS bs env F→okBs CS bs env fun e=>EnvWf e∧F e
 | [],env,F,hw,h=>⟨hw,h⟩
 | b::bs,env,F,hw,h=>by
  simp only [okBs] at h ⊢
  obtain ⟨v,h1,h2,h3⟩:=h
  exact ⟨v,h1,h2,okBs_wf' hCS (hw.snoc (B.ok_wf hCS hw h2)) h3⟩
theorem dst_lt' {d:Option Tmp} (h:dstOK y.n d=true) (hn:s.n=y.n):∀ t,d=some t→t<s.n:=by
 intro t e
 subst e
 simp only [dstOK,decide_eq_true_eq] at h
 rw [hn];exact h
theorem passT_cases {f:Leaf→Nat→Option Res} {lf:Leaf} {c:Nat} {r:Res} (h:passT f lf c=some r):(∃ t,lf.e = .thr t∧r=one lf.e lf.v lf.s c)∨((∀ t,lf.e ≠ .thr t)∧f lf c=some r):=by
 unfold passT at h
 cases he:lf.e with
 | thr t=>rw [he] at h;cases h;exact .inl ⟨t,rfl,rfl⟩
 | norm=>rw [he] at h;exact .inr ⟨by simp,h⟩
 | ret=>rw [he] at h;exact .inr ⟨by simp,h⟩
 | exit i=>rw [he] at h;exact .inr ⟨by simp,h⟩
variable {kt:TypeId→V→Sa→Prop}
theorem valQ_of {k:V→Sa→Prop} {lf:Leaf} {e:List Val} (h:∀ t,lf.e ≠ .thr t) (hq:∀ s' v,Inst e lf.s s' → InstV e lf.v v→k v s'):valQ k kt lf e:=by
 unfold valQ
 cases he:lf.e with
 | thr t=>exact absurd he (h t)
 | _=>exact hq
theorem opsQ_of {k:Sa→Prop} {lf:Leaf} {e:List Val} (h:∀ t,lf.e ≠ .thr t) (hq:∀ s',Inst e lf.s s' → k s'):opsQ k kt lf e:=by
 unfold opsQ
 cases he:lf.e with
 | thr t=>exact absurd he (h t)
 | _=>exact hq
theorem valQ_thr {k:V→Sa→Prop} {lf:Leaf} {e:List Val} {t:TypeId} (h:lf.e = .thr t) (hq:∀ s' v,Inst e lf.s s' → InstV e lf.v v→kt t v s'):valQ k kt lf e:=by
 unfold valQ;rw [h];exact hq
theorem opsQ_thr {k:Sa→Prop} {lf:Leaf} {e:List Val} {t:TypeId} (h:lf.e = .thr t) (hq:∀ s' v,Inst e lf.s s' → InstV e lf.v v→kt t v s'):opsQ k kt lf e:=by
 unfold opsQ;rw [h];exact hq
theorem opsQ_get {k:Sa→Prop} {lf:Leaf} {e:List Val} {t:TypeId} (h:lf.e = .thr t) (hq:opsQ k kt lf e):∀ s' v,Inst e lf.s s' → InstV e lf.v v→kt t v s':=by
 unfold opsQ at hq;rw [h] at hq;exact hq
theorem pass_sat {r r' : Res} {f:Leaf→Nat→Option Res} {k:Sa→Prop} (h:thenL r (passT f)=some r') (hw:EnvWf env) (hs:r'.t.sat (CallV P) noJ (LQ r'.L (opsQ k kt)) env) :
  r.t.sat (CallV P) noJ (LQ r.L fun lf e=>EnvWf e∧((∃ t,lf.e = .thr t∧∀ s' v,Inst e lf.s s' → InstV e lf.v v→kt t v s')∨((∀ t,lf.e ≠ .thr t)∧∃ c1 r1,f lf c1=some r1∧r1.t.sat (CallV P) noJ (LQ r1.L (opsQ k kt)) e))) env:=by
 refine lq_mono ?_ (then_sat h hw hs)
 rintro lf hlf e ⟨hwe,c1,r1,h1,h2⟩
 refine ⟨hwe,?_⟩
 rcases passT_cases h1 with ⟨t,he,rfl⟩ | ⟨hn,h1⟩
 ·exact .inl ⟨t,he,opsQ_get (lf:=⟨lf.e,lf.v,lf.s⟩) he (one_sat h2)⟩
 ·exact .inr ⟨hn,c1,r1,h1,h2⟩
theorem pass_lp {r r' : Res} {f:Leaf→Nat→Option Res} {base:List (Name×Lp)} (h:thenL r (passT f)=some r') (H:∀ lf∈r.L,lpS lf.s.lp=lpS base) (hF:∀ lf c r1,lf∈r.L→f lf c=some r1→∀ l∈r1.L,lpS l.s.lp=lpS base):∀ lf∈r'.L,lpS lf.s.lp=lpS base:=by
 intro lf' hl
 obtain ⟨lf,h1,c1,r1,h2,h3⟩:=then_mem h lf' hl
 rcases passT_cases h2 with ⟨t,he,rfl⟩ | ⟨hn,h2⟩
 ·rw [one_mem h3];exact H lf h1
 ·exact hF lf c1 r1 h1 h2 _ h3
theorem Snd.onil {f:FuncId} {all:Array Oper} {c:Nat}:Snd P p (.ops f all []) y (one .norm .dead y c) :=
 ⟨fun lf h=>by rw [one_mem h],fun env s hI hw k kt hs=>one_sat hs s hI⟩
theorem binds_go {bs:Bs} {r:Res} {Q:Leaf→List Val→Prop} (hw:EnvWf env) (hs:(binds bs r.t).sat (CallV P) noJ (LQ r.L Q) env):okBs (CallV P) bs env fun e=>EnvWf e∧r.t.sat (CallV P) noJ (LQ r.L Q) e:=by
 rw [sat_binds] at hs
 exact okBs_wf' callV_wf hw hs
theorem Snd.oone {f:FuncId} {tb:Tab} {all:Array Oper} {o:Oper} {l:List Oper} {bs:Bs} {y1:Sy} {r:Res} (hth:thrOp P o l=none) (h:oneOp P tb p all y o=some (bs,y1)) (H:Snd P p (.ops f all l) y1 r) :
  Snd P p (.ops f all (o::l)) y { r with t:=binds bs r.t } :=
 ⟨fun lf hl=>by rw [H.lp lf hl,oneOp_lp h],fun env s hI hw k kt hs=>by
  refine oneOp_ok pureS_sems hth hI hw h ?_
  refine okBs_mono ?_ (binds_go hw hs)
  rintro e ⟨hwe,hq⟩ s' hs'
  exact H.go e s' hs' hwe k kt hq⟩
theorem Snd.othr {f:FuncId} {all:Array Oper} {o:Oper} {l:List Oper} {t:TypeId} {x:Operand} {z:SV} {c:Nat} (hth:thrOp P o l=some (t,x)) (hd:dstOK y.n o.dst=true) (hx:y.get x=some z):Snd P p (.ops f all (o::l)) y (one (.thr t) z (y.put o.dst .dead) c) :=
 ⟨fun lf hl=>by rw [one_mem hl];show lpS (y.put o.dst .dead).lp=_;rw [put_lpS],fun env s hI hw k kt hs=>by
  show evOps P (semsT P kt) p all (o::l) s k
  simp only [evOps,hth]
  refine ⟨?_,one_sat hs _ _ (hI.put o.dst rfl) (hI.get hx)⟩
  split
  ·exact dst_lt' hd hI.n _ ‹_›
  ·trivial⟩
theorem callOp_ok {C:Cx} {rec:Name→Task→Sy→Nat→Option Res} (H:∀ p t y c r,rec p t y c=some r→Snd C.P p t y r) {f:FuncId} {all:Array Oper} {rest:List Oper} {o:Oper} {c:Nat} {r:Res} (h:callOp C rec p f all rest o y c=some r) :
  (∀ lf∈r.L,lpS lf.s.lp=lpS y.lp)∧∀ env s,Inst env y s→EnvWf env→∀ (k:Sa→Prop) kt,r.t.sat (CallV C.P) noJ (LQ r.L (opsQ k kt)) env→evOp C.P (semsT C.P kt) p o s fun s'=>evOps C.P (semsT C.P kt) p all rest s' k:=by
 unfold callOp at h
 split at h
 ·rename_i cl hop
  split at h
  ·rename_i fv hcl
   split at h
   ·rename_i z args hz hargs
    simp only at h
    have fin:∀ {t:Task} {r0:Res},Snd C.P (o.dst.getD 0::p) t y r0→thenL r0 (passT fun lf c=>if dstOK lf.s.n o.dst=true then rec p (.ops f all rest) (lf.s.put o.dst lf.v) c else none)=some r →
      (∀ lf∈r.L,lpS lf.s.lp=lpS y.lp)∧∀ env,EnvWf env→∀ (k:Sa→Prop) kt,r.t.sat (CallV C.P) noJ (LQ r.L (opsQ k kt)) env →
       r0.t.sat (CallV C.P) noJ (LQ r0.L (valQ (fun v s'=>(∀ d,o.dst=some d→d<s'.n)∧evOps C.P (semsT C.P kt) p all rest (s'.put o.dst v) k) kt)) env:=by
     intro t r0 h0 h
     constructor
     ·refine pass_lp h h0.lp fun lf c1 r1 h1 h2 l h3=>?_
      split at h2
      ·rw [(H _ _ _ _ _ h2).lp _ h3,put_lpS];exact h0.lp lf h1
      ·cases h2
     ·intro env hw k kt hs
      refine lq_mono ?_ (pass_sat h hw hs)
      rintro lf hlf e ⟨hwe,⟨t,he,hq⟩ | ⟨hn,c1,r1,h1,h2⟩⟩
      ·exact valQ_thr he hq
      ·refine valQ_of hn fun s' v hs' hv=>?_
       split at h1
       ·rename_i hd
        exact ⟨dst_lt' hd hs'.n,(H _ _ _ _ _ h1).go e _ (hs'.put o.dst hv) hwe k kt h2⟩
       ·cases h1
    have hgets:∀ {env s},Inst env y s→InstL env args (cl.args.toList.map s.get):=fun hI=>getAll_ok (fun o x hx=>hI.get hx) hargs
    split at h
    ·rename_i r0 hr0
     split at hr0
     ·rename_i g x
      split at hr0
      ·rename_i hcal
       have h0:=H _ _ _ _ _ hr0
       obtain ⟨k1,k2⟩:=fin h0 h
       refine ⟨k1,fun env s hI hw k kt hs=>?_⟩
       have hv:=hI.get hz
       simp only [InstV] at hv
       obtain ⟨a,e1,e2⟩:=hv
       simp only [evOp,hop,hcl,e2]
       exact ⟨hcal,h0.go env s hI hw _ _ _ (hgets hI) (k2 env hw k kt hs)⟩
      ·cases hr0
     ·rename_i g cap
      split at hr0
      ·rename_i hlt
       split at hr0
       ·rename_i hcal
        have h0:=H _ _ _ _ _ hr0
        obtain ⟨k1,k2⟩:=fin h0 h
        refine ⟨k1,fun env s hI hw k kt hs=>?_⟩
        have hv:=hI.get hz
        simp only [InstV] at hv
        obtain ⟨c',e1,e2⟩:=hv
        simp only [evOp,hop,hcl,e1,if_pos hlt]
        exact ⟨hcal,h0.go env s hI hw _ _ _ ((hgets hI).append e2) (k2 env hw k kt hs)⟩
       ·cases hr0
      ·rename_i hlt
       split at hr0
       ·rename_i hcal
        have h0:=H _ _ _ _ _ hr0
        obtain ⟨k1,k2⟩:=fin h0 h
        refine ⟨k1,fun env s hI hw k kt hs=>?_⟩
        have hv:=hI.get hz
        simp only [InstV] at hv
        obtain ⟨c',e1,e2⟩:=hv
        simp only [evOp,hop,hcl,e1,if_neg hlt]
        exact ⟨hcal,h0.go env s hI hw _ _ _ (InstL.append e2 (hgets hI)) (k2 env hw k kt hs)⟩
       ·cases hr0
     ·rename_i l
      have h0:=H _ _ _ _ _ hr0
      obtain ⟨k1,k2⟩:=fin h0 h
      refine ⟨k1,fun env s hI hw k kt hs=>?_⟩
      have hv:=hI.get hz
      simp only [InstV] at hv
      simp only [evOp,hop,hcl,hv]
      exact h0.go env s hI hw _ _ _ (hgets hI) (k2 env hw k _ hs)
     ·cases hr0
    ·cases h
   ·cases h
  ·cases h
 ·cases h
end
end Go.Tx
namespace Go.Tx
open Go Go.Ab
section
variable {P:Program} {CS:Calls'} {env:List Val} {y:Sy} {s:Sa} {p:Name}
theorem InstK.mapS {κ:Type} {f:SV→SV} (hf:∀ x v,InstV env x v→InstV env (f x) v):∀ {xs:List (κ×SV)} {vs:List (κ×V)},InstK env xs vs→InstK env (xs.map fun x=>(x.1,f x.2)) vs
 | [],vs,h=>by simp only [InstK] at h;subst h;rfl
 | (k,x)::xs,vs,h=>by
  simp only [InstK] at h
  obtain ⟨v,vs',rfl,h2,h3⟩:=h
  exact ⟨v,vs',rfl,hf _ _ h2,h3.mapS hf⟩
theorem openY_ok {g:E} (hg:g.val env=some ⟨.bool,true⟩) (hI:Inst env y s):Inst env (openY g y) s :=
 ⟨hI.g,hI.rd,hI.n,hI.ts.mapS (fun x v h=>reduceG_ok (by simp [holds,hg]) h),hI.sv,hI.bx,hI.lp,hI.ow,hI.vc⟩
theorem shutV_ok {g:E} (hg:g.val env=some ⟨.bool,false⟩) {z:SV} {v:V} (h:InstV env z v):InstV env (shutV g z) v:=by
 unfold shutV
 split
 ·rename_i gs x
  split
  ·rename_i ha
   simp only [InstV] at h
   obtain ⟨b,h1,h2,h3,h4⟩:=h
   obtain ⟨g',hm,hs⟩:=List.any_eq_true.1 ha
   have e:=E.same_eq hs
   subst e
   cases b with
   | true=>have:=holds_mem h1 _ hm;rw [hg] at this;cases this
   | false=>rw [h4 rfl];exact ⟨[],rfl,rfl⟩
  ·exact h
 ·exact h
theorem shutY_ok {g:E} (hg:g.val env=some ⟨.bool,false⟩) (hI:Inst env y s):Inst env (shutY g y) s :=
 ⟨hI.g,hI.rd,hI.n,hI.ts.mapS (fun x v h=>shutV_ok hg h),hI.sv,hI.bx,hI.lp,hI.ow,hI.vc⟩
theorem setKnown {t:Nat} {b:Bool} (hI:Inst env y s) (hl:lkT t s.ts = .d (.v (.bool b))):Inst env { y with ts:=setS t (.e .bool (.bool b)) y.ts } s:=by
 have h:=hI.put (some t) (x:=.e .bool (.bool b)) (v:=.d (.v (.bool b))) (by simp only [InstV];exact ⟨b,rfl,by rw [encD_bool]⟩)
 rw [put_self hl (by simp)] at h
 exact h
theorem Snd.ocall {C:Cx} {rec:Name→Task→Sy→Nat→Option Res} (H:∀ p t y c r,rec p t y c=some r→Snd C.P p t y r) {f:FuncId} {all:Array Oper} {rest:List Oper} {o:Oper} {c:Nat} {r:Res} (hth:thrOp C.P o rest=none) (hd:dstOK y.n o.dst=true) (hg:o.guard=none)
  (h:callOp C rec p f all rest o y c=some r):Snd C.P p (.ops f all (o::rest)) y r:=by
 obtain ⟨h1,h2⟩:=callOp_ok H h
 refine ⟨h1,fun env s hI hw k kt hs=>?_⟩
 show evOps C.P (semsT C.P kt) p all (o::rest) s k
 simp only [evOps,hth,hg]
 refine ⟨?_,h2 env s hI hw k kt hs⟩
 split
 ·exact dst_lt' hd hI.n _ ‹_›
 ·trivial
theorem Snd.ocallK {C:Cx} {rec:Name→Task→Sy→Nat→Option Res} (H:∀ p t y c r,rec p t y c=some r→Snd C.P p t y r) {f:FuncId} {all:Array Oper} {rest:List Oper} {o:Oper} {c:Nat} {r:Res} {j:Nat} {want:Bool} {t:Tmp} (hth:thrOp C.P o rest=none) (hd:dstOK y.n o.dst=true) (hg:o.guard=some (j,want)) (ht:(all[j]?).bind (·.dst)=some t) (hk:lkS t y.ts = .e .bool (.bool want))
  (h:callOp C rec p f all rest o y c=some r):Snd C.P p (.ops f all (o::rest)) y r:=by
 obtain ⟨h1,h2⟩:=callOp_ok H h
 refine ⟨h1,fun env s hI hw k kt hs=>?_⟩
 show evOps C.P (semsT C.P kt) p all (o::rest) s k
 have hlk:=hI.ts.lk (t:=t)
 rw [hk] at hlk
 simp only [InstV] at hlk
 obtain ⟨a,e1,e2⟩:=hlk
 cases e1
 rw [encD_bool] at e2
 simp only [evOps,hth,hg,ht,e2]
 refine ⟨by
  split
  ·exact dst_lt' hd hI.n _ ‹_›
  ·trivial,?_⟩
 have:=h2 env s hI hw k kt hs
 cases want with
 | true=>simp only [caseB_true,if_true];rw [put_self e2 (by simp)];exact this
 | false=>simp only [caseB_false,Bool.false_eq_true,if_false];rw [put_self e2 (by simp)];exact this
theorem Snd.ocallG {C:Cx} {rec:Name→Task→Sy→Nat→Option Res} (H:∀ p t y c r,rec p t y c=some r→Snd C.P p t y r) {f:FuncId} {all:Array Oper} {rest:List Oper} {o:Oper} {c c2 c3:Nat} {lg:Log} {r1 r2:Res} {j:Nat} {want:Bool} {t:Tmp} {x:E} (hth:thrOp C.P o rest=none) (hd:dstOK y.n o.dst=true) (hg:o.guard=some (j,want)) (ht:(all[j]?).bind (·.dst)=some t) (hk:lkS t y.ts = .e .bool x)
  (h1:callOp C rec p f all rest o (openY (if want then x else .p1 .not x) { y with ts:=setS t (.e .bool (.bool want)) y.ts }) c=some r1)
  (h2:rec p (.ops f all rest) ((shutY (if want then x else .p1 .not x) { y with ts:=setS t (.e .bool (.bool !want)) y.ts }).put o.dst (.tup [])) c2=some r2) :
  Snd C.P p (.ops f all (o::rest)) y ⟨if want then .ite x (shiftT 0 r1.L.length r1.t) (shiftT r1.L.length r2.L.length r2.t) else .ite x (shiftT r1.L.length r2.L.length r2.t) (shiftT 0 r1.L.length r1.t),r1.L++r2.L,c3,lg⟩:=by
 obtain ⟨k1,k2⟩:=callOp_ok H h1
 have H2:=H _ _ _ _ _ h2
 constructor
 ·intro lf hl
  rcases List.mem_append.1 hl with hl | hl
  ·rw [k1 lf hl];rfl
  ·rw [H2.lp lf hl,put_lpS];rfl
 ·intro env s hI hw k kt hs
  show evOps C.P (semsT C.P kt) p all (o::rest) s k
  have hlk:=hI.ts.lk (t:=t)
  rw [hk] at hlk
  simp only [InstV] at hlk
  obtain ⟨b,hx,e2⟩:=hlk
  rw [encD_bool] at e2
  simp only [evOps,hth,hg,ht,e2]
  refine ⟨by
   split
   ·exact dst_lt' hd hI.n _ ‹_›
   ·trivial,?_⟩
  have yes:b=want→r1.t.sat (CallV C.P) noJ (LQ r1.L (opsQ k kt)) env→evOp C.P (semsT C.P kt) p o s fun s'=>evOps C.P (semsT C.P kt) p all rest s' k:=fun e h=>by
   refine k2 env s (openY_ok ?_ (setKnown hI (by rw [e2,e]))) hw k kt h
   rw [wantE_val want hx,e];simp
  have no:b=(!want)→r2.t.sat (CallV C.P) noJ (LQ r2.L (opsQ k kt)) env→evOps C.P (semsT C.P kt) p all rest (s.put o.dst (.tup [])) k:=fun e h=>by
   refine H2.go env _ ((shutY_ok ?_ (setKnown hI (by rw [e2,e]))).put o.dst ⟨[],rfl,rfl⟩) hw k kt h
   rw [wantE_val want hx,e];cases want <;> simp
  have hps:=put_self e2 (by simp)
  cases want with
  | true =>
   simp only [if_true,T.sat] at hs
   obtain ⟨b',h3,h4,h5⟩:=hs
   rw [hx] at h3;cases h3
   cases b with
   | true=>simp only [caseB_true,if_true];rw [hps];exact yes rfl (shift_l (h4 rfl))
   | false=>simp only [caseB_false,if_true];rw [hps];exact no rfl (shift_r (h5 rfl))
  | false =>
   simp only [Bool.false_eq_true,if_false,T.sat] at hs
   obtain ⟨b',h3,h4,h5⟩:=hs
   rw [hx] at h3;cases h3
   cases b with
   | true=>simp only [caseB_true,Bool.false_eq_true,if_false];rw [hps];exact no rfl (shift_r (h4 rfl))
   | false=>simp only [caseB_false,Bool.false_eq_true,if_false];rw [hps];exact yes rfl (shift_l (h5 rfl))
theorem notNilS_ok:∀ {z:SV} {v:V},notNilS z=true→InstV env z v→v.notNil=true
 | .nil,v,h,_=>by cases h
 | .gd gs x,v,h,hv=>by
  simp only [notNilS] at h
  simp only [InstV] at hv
  obtain ⟨b,h1,h2,h3,h4⟩:=hv
  cases b with
  | true=>exact notNilS_ok h (h3 rfl)
  | false=>rw [h4 rfl];rfl
 | .e t x,v,_,hv=>by simp only [InstV] at hv;obtain ⟨a,_,rfl⟩:=hv;rfl
 | .own _ _ _ _,v,_,hv=>by simp only [InstV] at hv;obtain ⟨a,_,_,rfl⟩:=hv;rfl
 | .ptr _ _,v,_,hv=>by simp only [InstV] at hv;subst hv;rfl
 | .aptr _ _ _ _ _ _,v,_,hv=>by simp only [InstV] at hv;obtain ⟨k,j,_,_,_,rfl⟩:=hv;rfl
 | .ref _ _ _,v,_,hv=>by simp only [InstV] at hv;obtain ⟨a,cs,_,rfl,_⟩:=hv;rfl
 | .fn _ _,v,_,hv=>by simp only [InstV] at hv;obtain ⟨c,rfl,_⟩:=hv;rfl
 | .yld _,v,_,hv=>by simp only [InstV] at hv;subst hv;rfl
 | .mref _,v,_,hv=>by simp only [InstV] at hv;subst hv;rfl
 | .mpc _ _ _,v,_,hv=>by simp only [InstV] at hv;obtain ⟨a,kvs,_,rfl,_⟩:=hv;rfl
 | .agg _,v,_,hv=>by simp only [InstV] at hv;obtain ⟨c,rfl,_⟩:=hv;rfl
 | .mix _ _ _ _,v,_,hv=>by simp only [InstV] at hv;obtain ⟨a,c,_,rfl,_⟩:=hv;rfl
 | .tup _,v,_,hv=>by simp only [InstV] at hv;obtain ⟨c,rfl,_⟩:=hv;rfl
 | .kd _,v,_,hv=>by simp only [InstV] at hv;subst hv;rfl
 | .vsl _,v,_,hv=>by simp only [InstV] at hv;subst hv;rfl
 | .vpt _ _ _ _,v,_,hv=>by simp only [InstV] at hv;obtain ⟨k,j,_,_,rfl⟩:=hv;rfl
 | .dead,v,_,hv=>by simp only [InstV] at hv;subst hv;rfl
theorem notNilO_ok {x:Operand} (h:notNilO (y.get x)=true) (hI:Inst env y s):(s.get x).notNil=true:=by
 cases hx:y.get x with
 | none=>rw [hx] at h;cases h
 | some z=>rw [hx] at h;exact notNilS_ok h (hI.get hx)
theorem nilOKS_ok {o:Op} (h:nilOKS y o=true) (hI:Inst env y s):nilOK s o=true:=by
 cases o <;> first | rfl | exact notNilO_ok h hI
end
end Go.Tx
