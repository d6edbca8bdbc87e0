import Derived.Test.YtleeccmcgophfaaGreatPI
set_option linter.all false
namespace Go.Tx
open Go Go.Ab
theorem turnOut_ok {P:Program} {rs:List ResultVar} {rt:List TypeId} {w rty:Ty}:∀ {L:List Leaf} {ts:List T},turnOut P rs rt w rty L=some ts→ts.length=L.length∧∀ (i:Nat) (lf:Leaf),L[i]? = some lf→∃ zs es q,resV P lf.s rs=some zs∧outE P rt zs=some es∧(tupE es).1=rty∧lookN nm0 lf.s.vc=some (w,q)∧isBase lf.s=true∧ts[i]? = some (.jump 0 [.p2 .pair q (tupE es).2])∧isThr lf.e=false
 | [],ts,h=>by cases h;exact ⟨rfl,fun i lf h=>by simp at h⟩
 | lf::L,ts,h=>by
  simp only [turnOut] at h
  split at h
  ·rename_i zs u q hzs hq
   split at h
   ·rename_i es hes
    split at h
    ·rename_i hc
     obtain ⟨c1,rfl,c3,c4⟩:=hc
     obtain ⟨ts',h1,rfl⟩:=Option.map_eq_some_iff.1 h
     obtain ⟨k1,k2⟩:=turnOut_ok h1
     refine ⟨by simp [k1],fun i lf' hl=>?_⟩
     cases i with
     | zero=>simp at hl;subst hl;exact ⟨zs,es,q,hzs,hes,c1,hq,c3,by simp,c4⟩
     | succ i=>simpa using k2 i lf' (by simpa using hl)
    ·cases h
   ·cases h
  ·cases h
theorem base_ok {w:Ty} {xs:List w.den} {us:List Val}:Inst (⟨.sl w,xs⟩::us) (baseY w (us.map (·.1))) (sbT w.size (xs.map (encD w))) :=
 ⟨rfl,rfl,rfl,⟨_,[],rfl,rfl,rfl⟩,rfl,rfl,rfl,rfl,⟨xs,[],rfl,rfl,rfl⟩⟩
theorem base_args {w:Ty} {xs:List w.den} {us:List Val}:InstL (⟨.sl w,xs⟩::us) (.vsl nm0::varsE 1 (us.map (·.1))) (.vsl nm0::(us.map Val.d).map .d) :=
 ⟨_,_,rfl,rfl,by
  have:=varsE_ok us [⟨.sl w,xs⟩]
  simp only [List.singleton_append,List.length_singleton] at this
  rw [List.map_map]
  exact this⟩
theorem isBase_ok {env:List Val} {y:Sy} {s:Sa} (h:isBase y=true) (hI:Inst env y s):s.sv.length=1∧lpD s.lp=[]∧lkT 0 s.pop.ts = .vsl nm0:=by
 unfold isBase at h
 split at h
 ·rename_i f hf
  rw [Bool.and_eq_true,decide_eq_true_eq] at h
  have hl:=hI.sv.len
  rw [hf] at hl
  refine ⟨hl,by rw [hI.lp];exact h.2,?_⟩
  have hp:=hI.pop
  have:=hp.ts.lk (t:=0)
  have e:y.pop.ts=f.ts:=by simp [Sy.pop,hf]
  rw [e] at this
  revert this
  have h1:=h.1
  split at h1
  ·rename_i n hn
   rw [decide_eq_true_eq] at h1
   subst h1
   rw [hn]
   intro h;exact h
  ·cases h1
 ·cases h
theorem wf_of_flat {w:Ty} {xs:List w.den} (hn:w.noMp=true) (hl:xs.length≤9223372036854775807) (h:∀ j (hj:j<(flatD (xs.map (encD w))).length),((flatD (xs.map (encD w)))[j]).wf):Val.wf ⟨.sl w,xs⟩:=by
 refine wf_sl.2 ⟨hl,fun x hx=>Val.wf_of_d hn ?_⟩
 show (encD w x).wf
 refine encD_wf fun y hy=>?_
 have:y∈flatD (xs.map (encD w)):=by
  rw [flat_enc]
  exact List.mem_flatMap.2 ⟨x,hx,hy⟩
 obtain ⟨j,hj,rfl⟩:=List.mem_iff_getElem.1 this
 exact h j hj
theorem cmpT_ok {C:Cx} (hm:C.P.follows .mixedOrders=true) (hsp:SpOK C.P C.sp) {n g:Nat} {w:Ty} {as:List Ty} {rty:Ty} {t:T} {lg:Log} (h:cmpT C n g w as rty=some (t,lg)) {xs:List w.den} {us:List Val} (hvs:us.map (·.1)=as) {ys:List w.den} {r:rty.den}
  (hs:EnvWf (⟨.sl w,xs⟩::us)→t.sat (CallV C.P) (consJ (fun vs=>vs=[⟨.prod (.sl w) rty,(ys,r)⟩]) noJ) (fun _ _=>False) (⟨.sl w,xs⟩::us)):TurnOK C.P g w.size (xs.map (encD w)) (us.map Val.d) (ys.map (encD w)) (resD rty r):=by
 subst hvs
 unfold cmpT at h
 split at h
 ·rename_i fn hfn
  split at h
  ·rename_i cb hcb
   split at h
   ·rename_i hle
    split at h
    ·rename_i r0 h0
     split at h
     ·rename_i r1 h1
      split at h
      ·rename_i ts hts
       cases h
       intro Mo m sa w0 cnt vs rr hR hargs
       have hw:EnvWf (⟨.sl w,xs⟩::us):=by
        intro v hv
        rcases List.mem_cons.1 hv with rfl | hv
        ·have hv:=(hR.vec nm0 (w.size,xs.map (encD w)) (by simp [sbT,lookN])).2
         refine wf_of_flat hle.2.1 (by have:=hv.mx;simpa using this) fun j hj=>?_
         obtain ⟨c,_,_,g3⟩:=hv.cells j hj
         exact g3.wf
        ·obtain ⟨i,hi,rfl⟩:=List.mem_iff_getElem.1 hv
         refine Val.wf_of_d ?_ ?_
         ·have:=List.all_eq_true.1 hle.2.2 us[i].1 (List.mem_map_of_mem (List.getElem_mem hi))
          exact this
         ·have:=hargs.2 (i+1) (by simp;omega)
          simp only [List.getElem_cons_succ,List.getElem_map] at this
          cases this with
          | d h=>exact h.wf
       refine (TCall_enterT (kt:=noThr) (P:=C.P) (p:=[]) [0] hfn hcb (by have:=hle.1;simp only [List.length_map] at this;simp only [List.length_cons,List.length_map];exact this) (TC_post ?_)).noT Mo m sa w0 cnt vs rr hR hargs
       have H:=cmp_sound hm hsp _ _ _ _ _ _ h0
       refine H.go _ _ (base_ok.push fn.ntmps base_args) hw _ ?_
       have k0:=hs hw
       rw [T.sat_sub,T.sat_lift,cut_zero] at k0
       obtain ⟨hlen,k1⟩:=turnOut_ok hts
       have k2:r1.t.sat (CallV C.P) noJ (LQ r1.L (leafQ fun e s'=>isThr e=false∧s'.sv.length=1∧lpD s'.lp=[]∧resK C.P s' fn.results.toList fun zs=>TurnK w.size (ys.map (encD w)) (resD rty r) (mkRes zs) s'.pop)) (⟨.sl w,xs⟩::us):=by
        refine T.sat_mono (fun _ _ h=>h) ?_ k0
        intro i e hq
        cases htt:ts[i]? with
        | none=>simp [List.getD_eq_getElem?_getD,htt,T.sat] at hq
        | some tt =>
         have hi:i<r1.L.length:=by have:=(List.getElem?_eq_some_iff.1 htt).1;rw [hlen] at this;exact this
         obtain ⟨zs,es,q,q1,q2,q3,q4,q5,q6,q7⟩:=k1 i r1.L[i] (List.getElem?_eq_getElem hi)
         rw [htt] at q6
         cases q6
         simp only [List.getD_eq_getElem?_getD,htt,Option.getD_some,T.sat] at hq
         obtain ⟨vs',u1,u2⟩:=hq
         have u2:vs' = [⟨.prod (.sl w) rty,(ys,r)⟩]:=u2
         subst u2
         refine ⟨r1.L[i],List.getElem?_eq_getElem hi,fun s' hs'=>?_⟩
         obtain ⟨b1,b2,b3⟩:=isBase_ok q5 hs'
         refine ⟨q7,b1,b2,resV_ok q1 hs' fun ws hws=>?_⟩
         obtain ⟨vals,v1,v2,v3,v4⟩:=outE_ok q2 hws
         obtain ⟨a,a1,a2⟩:=tupE_ok v1 v2 v4
         obtain ⟨al,c1,c2⟩:=(hs'.vc.look).1 q4
         simp only [evs] at u1
         split at u1
         ·rename_i v vs'' w1 w2
          cases w2
          simp only [Option.some.injEq,List.cons.injEq,and_true] at u1
          subst u1
          have e1:(E.p2 .pair q (tupE es).2).val e=some ⟨.prod (.sl w) (tupE es).1,(al,a)⟩:=by
           show app2 (.pair) (q.val e) ((tupE es).2.val e)=_
           rw [c1,a1];rfl
          rw [e1] at w1
          simp only [Option.some.injEq] at w1
          have hk:∀ {rty2:Ty} {a:rty2.den} {rty:Ty} {r:rty.den},(⟨.prod (.sl w) rty2,(al,a)⟩:Val)=⟨.prod (.sl w) rty,(ys,r)⟩→al=ys∧resD rty2 a=resD rty r:=by
           intro rty2 a rty r h
           cases h;exact ⟨rfl,rfl⟩
          obtain ⟨x1,x2⟩:=hk w1
          refine ⟨?_,b3,ws,rfl,?_⟩
          ·have e2:s'.pop.vc=s'.vc:=by unfold Sa.pop;split <;> rfl
           rw [e2,c2,x1]
          ·rw [v3,← a2,x2]
         ·cases u1
       refine lq_mono ?_ (endL_sat h1 k2)
       rintro lf _ e hq s' hs'
       have:=hq s' hs'
       cases he:lf.e with
       | exit i=>rw [he] at this;exact this.elim
       | thr t=>rw [he] at this;obtain ⟨g1,_⟩:=this;cases g1
       | norm=>rw [he] at this;obtain ⟨_,g2,g3,g4⟩:=this;exact ⟨s',Wk.refl,g2,g3,g4⟩
       | ret=>rw [he] at this;obtain ⟨_,g2,g3,g4⟩:=this;exact ⟨s',Wk.refl,g2,g3,g4⟩
      ·cases h
     ·cases h
    ·cases h
   ·cases h
  ·cases h
 ·cases h
structure TurnF (P:Program) (g:Nat) (w:Ty) (as:List Ty) (rty:Ty) (F:TupD (.sl w::as)→Option (Ty.prod (.sl w) rty).den):Prop where
 ok:∀ st r,EnvWf (toVs (.sl w::as) st)→F st=some r→CallV P (g+1000000) (toVs (.sl w::as) st) ⟨.prod (.sl w) rty,r⟩
theorem toVs_cons {w:Ty}:∀ {as:List Ty} {st:TupD (.sl w::as)},∃ (xs:List w.den) (us:List Val),toVs (.sl w::as) st=⟨.sl w,xs⟩::us∧us.map (·.1)=as
 | [],st=>⟨st,[],rfl,rfl⟩
 | a::as,st=>⟨st.1,toVs (a::as) st.2,rfl,toVs_ty⟩
theorem TurnF.of {C:Cx} {n g:Nat} {w:Ty} {as:List Ty} {rty:Ty} {t:T} {lg:Log} {F:CFun} {f:TupD (.sl w::as)→Option (Ty.prod (.sl w) rty).den} (hm:C.P.follows .mixedOrders=true) (hsp:SpOK C.P C.sp) (hF:CFok C.P F) (h:cmpT C n g w as rty=some (t,lg))
  (hf:∀ st,t.run F (Ty.prod (.sl w) rty).den (toVs (.sl w::as) st) [fun vs=>ofVs [.prod (.sl w) rty] vs]=f st):TurnF C.P g w as rty f:=by
 have key:∀ st r,f st=some r→EnvWf (toVs (.sl w::as) st)→t.sat (CallV C.P) (consJ (fun us=>us=[⟨.prod (.sl w) rty,r⟩]) noJ) (fun _ _=>False) (toVs (.sl w::as) st):=by
  intro st r hr hw
  rw [← hf] at hr
  refine T.run_sound hF hw hr ?_
  intro j k vs hk hwv hkr
  cases j with
  | zero =>
   simp only [List.getElem?_cons_zero,Option.some.injEq] at hk
   subst hk
   exact ofVs_eq hkr
  | succ j=>simp at hk
 refine ⟨fun st r hw hr=>callV_mk rfl ?_ ?_⟩
 ·obtain ⟨xs,us,e1,e2⟩:=toVs_cons (w:=w) (as:=as) (st:=st)
  obtain ⟨ys,r⟩:=r
  have hk:=key st (ys,r) hr
  rw [e1] at hk ⊢
  exact ⟨w,xs,us,rty,ys,r,rfl,rfl,cmpT_ok hm hsp h e2 hk⟩
 ·refine sat_const (CS:=CallV C.P) (t:=t) (env:=toVs (.sl w::as) st) (T.sat_mono ?_ ?_ (T.sat_ext callV_wf hw (key st r hr hw)))
  ·intro j vs ⟨h1,h2⟩
   cases j with
   | zero=>have h2:vs=[⟨.prod (.sl w) rty,r⟩]:=h2;subst h2;exact h1 _ List.mem_cons_self
   | succ j=>exact h2.elim
  ·intro i e h;exact h.2.2.elim
theorem addT_ok {P:Program} {g:Nat} {w:Ty} {as:List Ty} {rty:Ty} {f:TupD (.sl w::as)→Option (Ty.prod (.sl w) rty).den} {F:CFun} (h:TurnF P g w as rty f) (hF:CFok P F):CFok P (addC (g+1000000) (.sl w::as) (.prod (.sl w) rty) f F):=by
 intro g' vs t x hw hx
 unfold addC at hx
 split at hx
 ·rename_i e
  have e:=Nat.eq_of_beq_eq_true e
  subst e
  split at hx
  ·rename_i st hst
   have e:=ofVs_eq hst
   subst e
   obtain ⟨a,h1,h2⟩:=castO_eq hx
   rw [← h2]
   exact h.ok st a hw h1
  ·cases hx
 ·exact hF g' vs t x hw hx
def treeT (P:Program) (tab:TabL) (hl:HlL) (sp:SpL) (g:Nat) (w:Ty) (as:List Ty) (rty:Ty):T:=((cmpT ⟨P,tabOf tab,hlOf hl,spOf sp⟩ 3000 g w as rty).map (·.1)).getD .fail
variable {P:Program}
theorem turn_of (L:Lib P) (hm:P.follows .mixedOrders=true) (g:Nat) (w:Ty) (as:List Ty) (rty:Ty) (f:TupD (.sl w::as)→Option (Ty.prod (.sl w) rty).den) (hl:HlL) (sp:SpL) (hsp:SpOK P (spOf sp))
  (hf:∀ st,(treeT P L.tab hl sp g w as rty).run L.cf (Ty.prod (.sl w) rty).den (toVs (.sl w::as) st) [fun vs=>ofVs [.prod (.sl w) rty] vs]=f st):TurnF P g w as rty f:=by
 unfold treeT at hf
 cases h:cmpT ⟨P,tabOf L.tab,hlOf hl,spOf sp⟩ 3000 g w as rty with
 | none =>
  rw [h] at hf
  have:∀ st,f st=none:=fun st=>by rw [← hf];rfl
  refine ⟨fun st r _ h=>?_⟩
  rw [this] at h;cases h
 | some q =>
  rw [h] at hf
  exact TurnF.of (C:=⟨P,tabOf L.tab,hlOf hl,spOf sp⟩) (lg:=q.2) hm hsp L.ok h hf
noncomputable def Lib.turn (L:Lib P) (hm:P.follows .mixedOrders=true) (g:Nat) (w:Ty) (as:List Ty) (rty:Ty) (f:TupD (.sl w::as)→Option (Ty.prod (.sl w) rty).den) (hl:HlL) (sp:SpL) (hsp:SpOK P (spOf sp))
  (hf:∀ st,(treeT P L.tab hl sp g w as rty).run L.cf (Ty.prod (.sl w) rty).den (toVs (.sl w::as) st) [fun vs=>ofVs [.prod (.sl w) rty] vs]=f st):Lib P :=
 ⟨addC (g+1000000) (.sl w::as) (.prod (.sl w) rty) f L.cf,L.tab,(g+1000000,.sl w::as,.prod (.sl w) rty,treeT P L.tab hl sp g w as rty)::L.tr,addT_ok (turn_of L hm g w as rty f hl sp hsp hf) L.ok,trees_cons L.le hf⟩
end Go.Tx
