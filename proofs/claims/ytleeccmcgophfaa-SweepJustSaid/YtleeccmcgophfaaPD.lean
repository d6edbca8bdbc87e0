import Derived.Test.YtleeccmcgophfaaPC
import Derived.Test.YtleeccmcgophfaaPB
import Derived.Scope
set_option linter.all false
namespace Go.Ab
open Go Go.RowKit
variable {P:Program} {a:Act} {w:World} {n:Nat} {Mo:Cells} {m:Mp} {s:Sa} {p:Name} {k:Sa→Prop} {Q:Exit→Act→World→Prop} {sv:List Act} {ops:Array Oper}
def Listed (ops:Array Oper) (listed:Array Bool) (D:Nat→Prop):Prop:=listed.size=ops.size∧∀ j<ops.size,(listed.getD j true=true↔D j)
theorem Listed.set {listed:Array Bool} {D:Nat→Prop} (h:Listed ops listed D) (i:Nat):Listed ops (listed.setIfInBounds i true) (fun j=>D j∨j=i):=by
 refine ⟨by simp [h.1],fun j hj=>?_⟩
 by_cases hij:i=j
 ·simp_all
 ·rw [getD_set_ne true hij,h.2 j hj]
  constructor
  ·grind
  grind
theorem Listed.false' {listed:Array Bool} {D:Nat→Prop} (h:Listed ops listed D) {j:Nat} (hj:j<ops.size):listed.getD j false=true↔D j:=by
 rw [← h.2 j hj]
 have:j<listed.size:=by rw [h.1];grind
 grind
theorem Listed.congr {listed:Array Bool} {D D' : Nat→Prop} (h:Listed ops listed D) (e:∀ j,D j↔D' j):Listed ops listed D':=⟨h.1,fun j hj=>(h.2 j hj).trans (e j)⟩
theorem lU {listed:Array Bool} {D:Nat→Prop} (h:Listed ops listed D) {i:Nat} (hi:i∈Region.ready .any ops listed) :
  i<ops.size∧¬ D i∧∃ o,ops[i]? = some o∧∀ j∈aft o,listed.getD j false=true:=by
 obtain ⟨h1,o,ho,h2⟩:=mem_ready.1 hi
 have hlt:i<ops.size:=(Array.getElem?_eq_some_iff.1 ho).1
 refine ⟨hlt,fun hd=>?_,o,ho,fun j hj=>?_⟩
 ·rw [(h.2 i hlt).2 hd] at h1;grind
 grind [aft]
theorem jS {listed:Array Bool} {D:Nat→Prop} (h:Listed ops listed D) {i:Nat} {o:Oper} (ho:ops[i]? = some o) (hd : ¬ D i) (ha:∀ j∈aft o,j<ops.size∧D j) :
  i∈Region.ready .any ops listed:=by
 have hlt:i<ops.size:=(Array.getElem?_eq_some_iff.1 ho).1
 refine mem_ready.2 ⟨?_,o,ho,fun e he hb=>?_⟩
 ·cases hx:listed.getD i true
  ·rfl
  ·exact absurd ((h.2 i hlt).1 hx) hd
 ·obtain ⟨h1,h2⟩:=ha e.on (by grind [aft])
  exact (h.false' h1).2 h2
def pW (P:Program) (ops:Array Oper) (Q:Exit→Act→World→Prop) (n:Nat) (Mo:Cells) (m:Mp) (s:Sa) (ds:List Deferred) (sv:List Act) (w:World) (fuel:Nat) (D:Nat→Prop) (k:Sa→Prop):Prop :=
 ∀ m' s' a' w' listed,k s' → Rel Mo m' s' (a' :: sv) w' → Step m s w m' s' w' → bf m' s' = bf m s→a'.defers=ds→Listed ops listed D→wpAnyIn (Wd (bf m s)) n P .any ops Q fuel listed a' w'
theorem Oy {L ivs:List (Nat×V)} (ha:Apart ops ivs) (h:∀ x,x∈L↔x∈ivs):Like (aN ops s L) (aN ops s ivs):=by
 obtain ⟨a1,a2,a3,a4,a5,a6⟩:=aZ (ops:=ops) (s:=s) L
 obtain ⟨b1,b2,b3,b4,b5,b6⟩:=aZ (ops:=ops) (s:=s) ivs
 refine ⟨a1.trans b1.symm,a2.trans b2.symm,a3.trans b3.symm,a4.trans b4.symm,a5.trans b5.symm,a6.trans b6.symm,fun t=>?_,(dP L).trans (dP ivs).symm⟩
 have hL:Apart ops L:=fun x hx y hy=>ha x ((h x).1 hx) y ((h y).1 hy)
 by_cases hex:∃ x∈ivs,aS ops x.1=some t
 ·obtain ⟨x,hx,hd⟩:=hex
  grind [og]
 grind [qH]
theorem Cb {α:Type} (l:List α) (q:α→Prop) (h:∃ x∈l,q x):∃ pre x post,l=pre++x::post∧q x∧∀ y∈pre,¬ q y:=by
 induction l with
 | nil=>grind
 | cons a l ih =>
  by_cases ha:q a
  ·exact ⟨[],a,l,rfl,ha,by simp⟩
  ·obtain ⟨x,hx,hq⟩:=h
   rcases List.mem_cons.1 hx with e | e
   ·grind
   ·obtain ⟨pre,x,post,e1,e2,e3⟩:=ih ⟨x,e,hq⟩
    refine ⟨a::pre,x,post,by grind,e2,fun y hy=>?_⟩
    rcases List.mem_cons.1 hy with h | h
    ·grind
    grind
theorem EN {l done later:List Nat} {ivs:List (Nat×V)} (hl:ivs.map Prod.fst=l) (hcalm:∀ i∈l,iM ops l i=true) (hord:gQ ops done l=true)
  (hlater:∀ i∈later,zK ops i (fun al=>al.any later.contains || l.all (need ops l.reverse al).contains)=true) (hfresh:∀ j∈later,j ∉ done∧j ∉ l) (hcov:∀ j<ops.size,j∈done∨j∈l∨j∈later)
  (hdone:∀ j∈done,j<ops.size)
  (hfact:∀ pre i v post,ivs=pre++(i,v)::post→nZ P p ops i v (aN ops s pre)) {fuel:Nat} {ds:List Deferred}
  (hN:pW P ops Q n Mo m s ds sv w fuel (fun j=>j∈done∨j∈l) (fun s'=>Like s' (aN ops s ivs))) :
  ∀ (N:Nat) (L:List (Nat×V)) (todo:List Nat) (listed:Array Bool) (m' : Mp) (s' : Sa) (a' : Act) (w' : World),todo.length=N→todo.Nodup→(∀ j∈todo,j∈l)→(∀ x∈L,x∈ivs∧x.1 ∉ todo)→(∀ x∈ivs,x.1 ∉ todo→x∈L) →
   Like s' (aN ops s L)→Rel Mo m' s' (a' :: sv) w' → Step m s w m' s' w' → bf m' s' = bf m s→a'.defers=ds→(∀ j∈l,j ∉ todo→∀ q∈lD ops j,q∈done∨(q∈l∧q ∉ todo))→Listed ops listed (fun j=>j∈done∨(j∈l∧j ∉ todo)) →
   wpAnyIn (Wd (bf m s)) n P .any ops Q (fuel+N) listed a' w':=by
 obtain ⟨hnd,hin⟩:=dZ hord
 have hndf:(ivs.map Prod.fst).Nodup:=by grind
 have fst_in:∀ x∈ivs,x.1∈l:=fun x hx=>by grind
 have same:∀ x∈ivs,∀ y∈ivs,x.1=y.1→x=y:=by
  intro x hx y hy e
  obtain ⟨i,hi,rfl⟩:=List.getElem_of_mem hx
  obtain ⟨j,hj,rfl⟩:=List.getElem_of_mem hy
  have:=(List.getElem_inj (xs:=ivs.map Prod.fst) (h₀:=by simpa using hi) (h₁:=by simpa using hj) hndf).1 (by grind)
  subst this;rfl
 have apart:Apart ops ivs:=by
  intro x hx y hy t h1 h2
  refine same x hx y hy ?_
  grind [iM,dY]
 intro N
 induction N with
 | zero =>
  intro L todo listed m' s' a' w' hlen _ _ hL hL' hlike hR hst hrd hds _ hlisted
  have:todo=[]:=List.eq_nil_of_length_eq_zero hlen
  subst this
  refine hN m' s' a' w' listed ?_ hR hst hrd hds (hlisted.congr fun j=>by simp)
  exact hlike.trans (Oy apart fun x=>⟨fun hx=>(hL x hx).1,fun hx=>hL' x hx (by simp)⟩)
 | succ N ih =>
  intro L todo listed m' s' a' w' hlen htn htl hL hL' hlike hR hst hrd hds hclo hlisted
  have split_of:∀ i∈todo,∃ pre v post o,ivs=pre++(i,v)::post∧ops[i]? = some o∧(∀ j∈aft o,j∈done∨j∈pre.map Prod.fst)∧i ∉ done∧i ∉ pre.map Prod.fst:=by
   intro i hi
   have hil:=htl i hi
   rw [← hl] at hil
   obtain ⟨x,hx,rfl⟩:=List.mem_map.1 hil
   obtain ⟨pre,post,e⟩:=List.append_of_mem hx
   have hl2:l=pre.map Prod.fst++x.1::post.map Prod.fst:=by rw [← hl,e];simp
   rw [hl2] at hord
   obtain ⟨⟨o,ho,h1⟩,h2,h3⟩:=fP _ hord
   exact ⟨pre,x.2,post,o,e,ho,h1,h2,h3⟩
  refine ⟨fun hr=>?_,fun i hi=>?_⟩
  ·exfalso
   have htne:∃ i,i∈todo:=by
    cases todo with
    | nil=>simp at hlen
    | cons i t=>exact ⟨i,List.mem_cons_self⟩
   obtain ⟨i0,hi0⟩:=htne
   obtain ⟨x0,hx0,e0⟩:=List.mem_map.1 (by rw [hl];exact htl i0 hi0:i0∈ivs.map Prod.fst)
   obtain ⟨pre,x,post,e1,e2,e3⟩:=Cb ivs (fun x=>x.1∈todo) ⟨x0,hx0,by rw [e0];exact hi0⟩
   have hl2:l=pre.map Prod.fst++x.1::post.map Prod.fst:=by rw [← hl,e1];simp
   have hord2:=hord
   rw [hl2] at hord2
   obtain ⟨⟨o,ho,h1⟩,h2,h3⟩:=fP _ hord2
   have:x.1∈Region.ready .any ops listed:=jS hlisted ho (by rintro (h | h);exact h2 h;exact h.2 e2) (fun j hj=>by
    rcases h1 j hj with h | h
    ·exact ⟨hdone j h,.inl h⟩
    ·obtain ⟨y,hy,rfl⟩:=List.mem_map.1 h
     have hyi:y∈ivs:=by rw [e1];exact List.mem_append_left _ hy
     exact ⟨(hin _ (fst_in y hyi)).2,.inr ⟨fst_in y hyi,e3 y hy⟩⟩)
   rw [hr] at this;cases this
  ·obtain ⟨hlt,hnD,o,ho,haft⟩:=lU hlisted hi
   have hnd' : i ∉ done:=fun h=>hnD (.inl h)
   have hit:i∈todo:=by
    rcases hcov i hlt with h | h | h
    ·exact absurd h hnd'
    ·exact Classical.byContradiction fun hc=>hnD (.inr ⟨h,hc⟩)
    ·exfalso
     obtain ⟨o',ho',hb⟩:=oh (hlater i h)
     rw [ho] at ho'; cases ho'
     simp only [Bool.or_eq_true] at hb
     rcases hb with hb | hb
     ·obtain ⟨j,hj,hjl⟩:=List.any_eq_true.1 hb
      have hjl' : j∈later:=by simpa using hjl
      have h1:=haft j hj
      have hjs:j<ops.size:=by
       have:j<listed.size:=by
        rcases Nat.lt_or_ge j listed.size with h' | h'
        ·exact h'
        ·simp [Array.getElem?_eq_none h'] at h1
       rw [← hlisted.1];exact this
      rcases (hlisted.false' hjs).1 h1 with h2 | h2
      ·exact (hfresh j hjl').1 h2
      ·exact (hfresh j hjl').2 h2.1
     ·have htne:∃ i,i∈todo:=by
       cases todo with
       | nil=>simp at hlen
       | cons i t=>exact ⟨i,List.mem_cons_self⟩
      obtain ⟨j,hj⟩:=htne
      have hja:=List.all_eq_true.1 hb j (htl j hj)
      have hlt' : ∀ q,listed.getD q false=true→q<ops.size:=fun q h1=>by
       have:q<listed.size:=by
        rcases Nat.lt_or_ge q listed.size with h' | h'
        ·exact h'
        ·simp [Array.getElem?_eq_none h'] at h1
       rw [← hlisted.1];exact this
      have h1:=Jp (ops:=ops) (q:=fun q=>q∈done∨(q∈l∧q ∉ todo)) (l:=l.reverse) (S:=aft o)
       (fun q hq=>(hlisted.false' (hlt' q (haft q hq))).1 (haft q hq))
       (fun q hq hqq x hx=>by
        have hql:q∈l:=by simpa using hq
        rcases hqq with hqq | hqq
        ·exact absurd hqq (hin q hql).1
        ·exact hclo q hql hqq.2 x hx) j (by simpa using hja)
      rcases h1 with h2 | h2
      ·exact (hin j (htl j hj)).1 h2
      ·exact h2.2 hj
   obtain ⟨pre,v,post,o',e1,ho',hpre,_,hipre⟩:=split_of i hit
   rw [ho] at ho'; cases ho'
   obtain ⟨o2,ho2,hf⟩:=hfact pre i v post e1
   rw [ho] at ho2;cases ho2
   have hivs:(i,v)∈ivs:=by rw [e1];simp
   have hcal:=hcalm i (htl i hit)
   unfold iM at hcal
   rw [ho] at hcal
   simp only [Bool.and_eq_true] at hcal
   have hpi:∀ y∈pre,y∈ivs:=fun y hy=>by rw [e1];exact List.mem_append_left _ hy
   have hreads:∀ t∈jR ops o,lkT t s'.ts=lkT t (aN ops s pre).ts:=by
    intro t ht
    rw [hlike.ts t]
    have hpap:Apart ops pre:=fun x hx y hy=>apart x (hpi x hx) y (hpi y hy)
    have hLap:Apart ops L:=fun x hx y hy=>apart x (hL x hx).1 y (hL y hy).1
    by_cases hex:∃ y∈ivs,aS ops y.1=some t∧y.1≠i
    ·obtain ⟨y,hy,hyd,hyi⟩:=hex
     have h2:=List.all_eq_true.1 hcal.2.2 y.1 (fst_in y hy)
     simp only [Bool.or_eq_true,beq_iff_eq,Bool.and_eq_true] at h2
     have hya:y.1∈aft o:=by
      rcases h2 with h2 | ⟨_,h2 | h2⟩
      ·exact absurd h2 hyi
      ·have:=List.all_eq_true.1 h2 t ht
       simp [hyd] at this
      ·simpa using h2
     have hyL:y∈L:=by
      refine hL' y hy fun hyt=>?_
      rcases (hlisted.false' (hin y.1 (fst_in y hy)).2).1 (haft y.1 hya) with h | h
      ·exact (hin y.1 (fst_in y hy)).1 h
      ·exact h.2 hyt
     have hyp:y∈pre:=by
      rcases hpre y.1 hya with h | h
      ·exact absurd h (hin y.1 (fst_in y hy)).1
      ·obtain ⟨z,hz,e⟩:=List.mem_map.1 h
       rw [← same z (hpi z hz) y hy e];exact hz
     rw [og hLap hyL hyd,og hpap hyp hyd]
    ·rw [qH (fun y hy hd=>?_),qH (fun y hy hd=>?_)]
     ·by_cases hyi:y.1=i
      ·exact hipre (List.mem_map.2 ⟨y,hy,hyi⟩)
      ·exact hex ⟨y,hpi y hy,hd,hyi⟩
     ·by_cases hyi:y.1=i
      ·exact (hL y hy).2 (by rw [hyi];exact hit)
      ·exact hex ⟨y,(hL y hy).1,hd,hyi⟩
   obtain ⟨b1,b2,b3,b4,b5,b6⟩:=aZ (ops:=ops) (s:=s) pre
   obtain ⟨c1,c2,c3,c4,c5,c6⟩:=aZ (ops:=ops) (s:=s) L
   have hev:=hf s' (.of_eq (hlike.bx.trans (c4.trans b4.symm)) (hlike.vc.trans ((dP L).trans (dP pre).symm))) (hlike.n.trans (c2.trans b2.symm)) hreads (fun s2=>∃ s1,Like s1 s' ∧ s2=s1.put o.dst v) (fun s1 h1=>⟨s1,h1,rfl⟩)
   rw [← hrd]
   refine sF ho hR ?_ hev
   rintro m2 s2 a2 w2 ⟨s1,hs1,rfl⟩ hR2 hst2 hrd2 hds2
   rw [hrd]
   refine ih (L++[(i,v)]) (todo.erase i) _ m2 _ a2 w2 (by rw [List.length_erase_of_mem hit];omega) (htn.erase i) (fun j hj=>htl j (List.mem_of_mem_erase hj)) ?_ ?_ ?_ hR2 (hst.trans hst2) (hrd2.trans hrd) (hds2.trans hds) ?_ ?_
   ·intro x hx
    rcases List.mem_append.1 hx with h | h
    ·exact ⟨(hL x h).1,fun hc=>(hL x h).2 (List.mem_of_mem_erase hc)⟩
    ·simp only [List.mem_singleton] at h;subst h
     exact ⟨hivs,fun hc=>by rw [htn.mem_erase_iff] at hc;exact hc.1 rfl⟩
   ·intro x hx hxt
    by_cases hxi:x.1=i
    ·exact List.mem_append_right _ (by rw [same x hx _ hivs hxi];simp)
    ·exact List.mem_append_left _ (hL' x hx fun hc=>hxt ((htn.mem_erase_iff).2 ⟨hxi,hc⟩))
   ·rw [mO]
    show Like _ ((aN ops s L).put (aS ops i) v)
    rw [dY ho]
    exact (hs1.trans hlike).put _ _
   ·intro j hj hjt q hq
    have hkeep:∀ q,(q∈done∨(q∈l∧q ∉ todo))→q∈done∨(q∈l∧q ∉ todo.erase i):=fun q h=>h.imp id fun h=>⟨h.1,fun hc=>h.2 (List.mem_of_mem_erase hc)⟩
    by_cases hji:j=i
    ·subst hji
     have hq' : q∈aft o:=by simpa [lD,ho] using hq
     refine hkeep q ((hlisted.false' ?_).1 (haft q hq'))
     have h1:=haft q hq'
     have:q<listed.size:=by
      rcases Nat.lt_or_ge q listed.size with h' | h'
      ·exact h'
      ·simp [Array.getElem?_eq_none h'] at h1
     rw [← hlisted.1];exact this
    ·exact hkeep q (hclo j hj (fun hc=>hjt ((htn.mem_erase_iff).2 ⟨hji,hc⟩)) q hq)
   ·refine (hlisted.set i).congr fun j=>?_
    constructor
    ·rintro ((h | h) | h)
     ·exact .inl h
     ·exact .inr ⟨h.1,fun hc=>h.2 (List.mem_of_mem_erase hc)⟩
     ·subst h;exact .inr ⟨htl j hit,fun hc=>by rw [htn.mem_erase_iff] at hc;exact hc.1 rfl⟩
    ·rintro (h | h)
     ·exact .inl (.inl h)
     ·by_cases hji:j=i
      ·exact .inr hji
      ·exact .inl (.inr ⟨h.1,fun hc=>h.2 ((htn.mem_erase_iff).2 ⟨hji,hc⟩)⟩)
end Go.Ab
namespace Go.Ab
open Go Go.RowKit
variable {P:Program} {a:Act} {w:World} {n:Nat} {Mo:Cells} {m:Mp} {s:Sa} {p:Name} {k:Sa→Prop} {Q:Exit→Act→World→Prop} {sv:List Act} {ops:Array Oper}
theorem lV {α:Type} {H:List Name} {nm:Name}:∀ {l:List (Name×α)},aj nm (l.filter fun x=>!H.contains x.1)=if H.contains nm then none else aj nm l
 | []=>by simp [aj]
 | x::l=>by
  obtain ⟨a,b⟩:=x
  simp only [List.filter_cons]
  split
  ·rename_i h
   simp only [aj]
   split
   ·grind
   ·exact lV
  ·rename_i h
   rw [lV]
   grind [aj]
theorem xw:∀ (l:List (Nat×V)) {A B:Sa},(∀ t,lkT t A.ts=lkT t B.ts)→∀ t,lkT t (aN ops A l).ts=lkT t (aN ops B l).ts
 | [],_,_,h=>h
 | x::l,A,B,h=>by
  show ∀ t,lkT t (aN ops (A.put (aS ops x.1) x.2) l).ts=lkT t (aN ops (B.put (aS ops x.1) x.2) l).ts
  refine xw l fun t=>?_
  generalize aS ops x.1=d
  cases d with
  | none=>exact h t
  | some d=>grind [Sa.put,gB]
theorem nZ.ext {i:Nat} {v:V} {st s' : Sa} (h:nZ P p ops i v st) (hb:nK st s') (hn:s'.n=st.n) (hr:∀ u∈readsOf ops i,lkT u s'.ts=lkT u st.ts):nZ P p ops i v s':=by
 obtain ⟨o,ho,h⟩:=h
 have hr' : ∀ u∈jR ops o,lkT u s'.ts=lkT u st.ts:=fun u hu=>hr u (by grind [readsOf])
 exact ⟨o,ho,fun s2 hb2 hn2 ht k' hk=>h s2 ⟨fun nm c hc=>hb2.1 nm c (hb.1 nm c hc),fun nm c hc=>hb2.2 nm c (hb.2 nm c hc)⟩ (hn2.trans hn) (fun t htm=>(ht t htm).trans (hr' t htm)) k' hk⟩
theorem Step.GN {m' : Mp} {s' : Sa} {w' : World} {as:List Act} (h:Step m s w m' s' w') (hR:Rel Mo m s as w):lC w (Tot Mo s.bx s.ow m) w' (Tot Mo s'.bx s'.ow m'):=by
 intro b o c hc hm
 have hlt:=World.block_lt_of_cell? w _ hc
 simp only at hlt
 obtain ⟨d,T,f,hb,_⟩:=sD hc
 have hL : ¬ LpB s.lp m b:=by
  rintro ⟨l,q,hl,rfl⟩
  obtain ⟨r,x,hx⟩:=hR.lps l q hl
  rw [hx.heap] at hb;grind
 obtain ⟨d',h1,h2,h3⟩:=h.keeps.cel b d T f hb hL
 refine ⟨?_,?_⟩
 ·grind [cell_of_block]
 ·rintro (hx | hx)
  ·grind
  ·exact hm (.inr (h.mt b o hlt hx))
theorem Rel.tell (h:Rel Mo m s (a::sv) w) {d:Tmp} {v:V} (hv:aU w (Tot Mo s.bx s.ow m) m v (a.tmps.getD d undef)):Rel Mo m (s.put (some d) v) (a::sv) w:=by
 refine ⟨h.len,?_,h.box,h.inj,h.oww,h.owx,h.owb,h.lps,h.dep,h.lpi,h.mo,h.mks,h.owm,h.vec⟩
 intro i hi hi'
 cases i with
 | zero =>
  have h0:=h.cur
  refine ⟨h0.size,fun t=>?_,h0.def_⟩
  simp only [Sa.put,List.getElem_cons_zero,gB]
  split
  ·grind
  ·exact h0.ts t
 | succ i=>exact h.fr (i+1) hi hi'
theorem LK.rep {ds:List Tmp} {sj:Sa} {m' : Mp} {w' : World} {M M' : Cells} {v:V} {c:Value} {a' : Act} (h:LK ds s sj v) (hst:lC w M w' M') (hv:aU w M m v c)
  (h1:∀ t,aU w M m (lkT t s.ts) (a.tmps.getD t undef)) (h2:∀ t,aU w' M' m' (lkT t sj.ts) (a'.tmps.getD t undef)) (hsame:∀ t,t ∉ ds→a'.tmps.getD t undef=a.tmps.getD t undef):aU w' M' m' v c:=by
 cases v with
 | d x=>cases hv with | d hv=>exact .d (hv.mono hst)
 | nil=>cases hv;exact .nil
 | ref cs=>exact hv.mono hst (by simp [V.bxs]) (by simp [V.ows]) (by simp [V.lps]) (by simp [V.vns])
 | ptr nm off =>
  obtain ⟨t,o,o',g1,g2,g3⟩:=h
  have k1:=h1 t
  have k2:=h2 t
  rw [g2] at k1
  rw [g3,hsame t g1] at k2
  have k3:=k1.mG.symm.trans k2.mG
  simp only [Value.pointer.injEq,Option.some.injEq,Addr.mk.injEq] at k3
  rw [hv.mG,k3.1];exact .ptr
 | _=>exact h.elim
theorem Tt {l l' : List Nat} (h:∀ q∈l',q∈l) {i:Nat} (hc:iM ops l i=true):iM ops l' i=true:=by
 grind [iM]
def WO (P:Program) (ops:Array Oper) (Q:Exit→Act→World→Prop) (n:Nat) (Mo:Cells) (sv:List Act) (dd:List Deferred) (done l:List Nat) (ivs:List (Nat×V)) (fuel:Nat) (m:Mp) (s:Sa) (w:World):Prop :=
 ∀ (N:Nat) (L:List (Nat×V)) (todo:List Nat) (listed:Array Bool) (m' : Mp) (s' : Sa) (a' : Act) (w' : World),todo.length=N→todo.Nodup→(∀ j∈todo,j∈l)→(∀ x∈L,x∈ivs∧x.1 ∉ todo)→(∀ x∈ivs,x.1 ∉ todo→x∈L) →
  Like s' (aN ops s L)→Rel Mo m' s' (a' :: sv) w' → Step m s w m' s' w' → bf m' s' = bf m s→a'.defers=dd→(∀ j∈l,j ∉ todo→∀ q∈lD ops j,q∈done∨(q∈l∧q ∉ todo))→Listed ops listed (fun j=>j∈done∨(j∈l∧j ∉ todo)) →
  wpAnyIn (Wd (bf m s)) n P .any ops Q (fuel+N) listed a' w'
def EO (P:Program) (p:Name) (ops:Array Oper) (hb:Sa) (ivs:List (Nat×V)) (s:Sa):Prop :=
 ∀ pre i v post,ivs=pre++(i,v)::post→∃ st,nZ P p ops i v st∧nK st hb∧st.n=s.n∧∀ u,lkT u st.ts=lkT u (aN ops s pre).ts
theorem EP {l1 l2 done later:List Nat} {ivs1 ivs2:List (Nat×V)} {j:Nat} {oj:Oper} {s1:Sa} {K:Sa→Prop} {hb:Sa} (hl1:ivs1.map Prod.fst=l1) (hl2:ivs2.map Prod.fst=l2)
  (hcalm:∀ i∈l1++l2,iM ops (l1++l2) i=true) (hord:gQ ops done (l1++l2)=true) (hord2:gQ ops (j::(l1.reverse++done)) l2=true)
  (hj:ops[j]? = some oj) (hja:∀ q∈aft oj,q∈done∨q∈l1) (hneed:∀ q∈l1,q∈need ops (l1++l2).reverse (aft oj)) (hj1:j ∉ done) (hj2:j ∉ l1++l2)
  (hls:∀ q∈l2,aS ops q≠oj.dst∧(∀ d,oj.dst=some d→d ∉ readsOf ops q)∧∀ d,aS ops q=some d→d ∉ readsOf ops q∧lkT d s.ts = .dead)
  (hlater:∀ q∈later,zK ops q (fun al=>al.any later.contains || (need ops (l1++l2).reverse al).contains j)=true)
  (hfresh:∀ q∈later,q ∉ done∧q ∉ l1++l2∧q≠j) (hcov:∀ q<ops.size,q∈done∨q∈l1++l2∨q=j∨q∈later) (hdone:∀ q∈done,q<ops.size)
  (hfact:∀ pre i v post,ivs1++ivs2=pre++(i,v)::post→∃ st,nZ P p ops i v st∧nK st s∧st.n=s.n∧∀ u,lkT u st.ts=lkT u (aN ops s pre).ts)
  (hfact2:EO P p ops hb ivs2 s1)
  (hs1:Like s1 (aN ops s ivs1)) (hev:bP P (pJ P) p ops [oj] s1 K)
  (hK:∀ sj,K sj→nK hb sj∧sj.n=s1.n∧(∀ q∈l2,∀ u∈readsOf ops q,(∀ y∈l2,aS ops y≠some u)→lkT u sj.ts=lkT u s1.ts)∧∀ x∈ivs2,LK (oj.dst.toList++l2.filterMap (aS ops)) s1 sj x.2) {fuel:Nat} {dd:List Deferred}
  (hC:∀ sj m4 w4,K sj→Step m s w m4 sj w4→bf m4 sj=bf m s→EO P p ops hb ivs2 sj→WO P ops Q n Mo sv dd (j::(l1.reverse++done)) l2 ivs2 fuel m4 sj w4) :
  ∀ (N:Nat) (L:List (Nat×V)) (todo:List Nat) (listed:Array Bool) (m' : Mp) (s' : Sa) (a' : Act) (w' : World),N=todo.length→todo.Nodup→(∀ j∈todo,j∈l1++l2)→(∀ x∈L,x∈ivs1++ivs2∧x.1 ∉ todo)→(∀ x∈ivs1++ivs2,x.1 ∉ todo→x∈L) →
   Like s' (aN ops s L)→Rel Mo m' s' (a' :: sv) w' → Step m s w m' s' w' → bf m' s' = bf m s→a'.defers=dd →
   (∀ q∈l1++l2,q ∉ todo→∀ x∈lD ops q,x∈done∨(x∈l1++l2∧x ∉ todo))→Listed ops listed (fun q=>q∈done∨(q∈l1++l2∧q ∉ todo)) →
   wpAnyIn (Wd (bf m s)) n P .any ops Q (fuel+(N+1)) listed a' w':=by
 obtain ⟨l,hll⟩:∃ l,l=l1++l2:=⟨_,rfl⟩
 obtain ⟨ivs,hivs0⟩:∃ ivs,ivs=ivs1++ivs2:=⟨_,rfl⟩
 have hl:ivs.map Prod.fst=l:=by rw [hivs0,hll,List.map_append,hl1,hl2]
 rw [← hll] at hcalm hord hneed hj2 hlater hfresh hcov
 rw [← hll,← hivs0]
 rw [← hivs0] at hfact
 obtain ⟨hnd,hin⟩:=dZ hord
 have hndf:(ivs.map Prod.fst).Nodup:=by rw [hl];exact hnd
 have fst_in:∀ x∈ivs,x.1∈l:=fun x hx=>by rw [← hl];exact List.mem_map.2 ⟨x,hx,rfl⟩
 have in2:∀ q∈l2,q∈l:=fun q hq=>by rw [hll];exact List.mem_append_right _ hq
 have inv2:∀ x∈ivs2,x∈ivs:=fun x hx=>by rw [hivs0];exact List.mem_append_right _ hx
 have fst2:∀ x∈ivs2,x.1∈l2:=fun x hx=>by rw [← hl2];exact List.mem_map.2 ⟨x,hx,rfl⟩
 have dis:∀ q∈l1,q ∉ l2:=fun q h1 h2=>by
  rw [hll,List.nodup_append] at hnd
  exact hnd.2.2 q h1 q h2 rfl
 have same:∀ x∈ivs,∀ y∈ivs,x.1=y.1→x=y:=by
  intro x hx y hy e
  obtain ⟨i,hi,rfl⟩:=List.getElem_of_mem hx
  obtain ⟨j,hj,rfl⟩:=List.getElem_of_mem hy
  have:=(List.getElem_inj (xs:=ivs.map Prod.fst) (h₀:=by simpa using hi) (h₁:=by simpa using hj) hndf).1 (by simpa using e)
  subst this;rfl
 have calm_inv:∀ q∈l,∃ o,ops[q]? = some o∧o.dst.isSome=true∧∀ r∈l,r=q∨(aS ops r≠o.dst∧((∀ u∈jR ops o,aS ops r≠some u)∨r∈aft o)):=by
  intro q hq
  have hc:=hcalm q hq
  unfold iM at hc
  split at hc
  ·rename_i o ho
   simp only [Bool.and_eq_true] at hc
   refine ⟨o,ho,hc.2.1,fun r hr=>?_⟩
   have:=List.all_eq_true.1 hc.2.2 r hr
   simp only [Bool.or_eq_true,beq_iff_eq,Bool.and_eq_true,bne_iff_ne] at this
   rcases this with h | ⟨h,h2⟩
   ·exact .inl h
   ·refine .inr ⟨h,h2.imp (fun h2 u hu=>?_) (fun h2=>by simpa using h2)⟩
    simpa using List.all_eq_true.1 h2 u hu
  ·cases hc
 have apart:Apart ops ivs:=by
  intro x hx y hy u h1 h2
  refine same x hx y hy ?_
  obtain ⟨o,ho,_,hc⟩:=calm_inv x.1 (fst_in x hx)
  rcases hc y.1 (fst_in y hy) with h | ⟨h,_⟩
  ·exact h.symm
  ·exact absurd (by rw [h2,← dY ho,h1]) h
 have apart1:Apart ops ivs1:=fun x hx y hy=>apart x (by rw [hivs0];exact List.mem_append_left _ hx) y (by rw [hivs0];exact List.mem_append_left _ hy)
 have split_of:∀ i∈l,∃ pre v post o,ivs=pre++(i,v)::post∧ops[i]? = some o∧(∀ j∈aft o,j∈done∨j∈pre.map Prod.fst)∧i ∉ done∧i ∉ pre.map Prod.fst:=by
  intro i hil
  rw [← hl] at hil
  obtain ⟨x,hx,rfl⟩:=List.mem_map.1 hil
  obtain ⟨pre,post,e⟩:=List.append_of_mem hx
  have hl2:l=pre.map Prod.fst++x.1::post.map Prod.fst:=by rw [← hl,e];simp
  have hord9:=hord
  rw [hl2] at hord9
  obtain ⟨⟨o,ho,h1⟩,h2,h3⟩:=fP _ hord9
  exact ⟨pre,x.2,post,o,e,ho,h1,h2,h3⟩
 intro N
 induction N with
 | zero | succ N ih =>
  intro L todo listed m' s' a' w' hlen htn htl hL hL' hlike hR hst hrd hdd hclo hlisted
  have hlt' : ∀ q,listed.getD q false=true→q<ops.size:=fun q h1=>by
   have:q<listed.size:=by
    rcases Nat.lt_or_ge q listed.size with h' | h'
    ·exact h'
    ·simp [Array.getElem?_eq_none h'] at h1
   rw [← hlisted.1];exact this
  have hlD:∀ q,listed.getD q false=true→q∈done∨(q∈l∧q ∉ todo):=fun q h=>(hlisted.false' (hlt' q h)).1 h
  have hjl:j<ops.size:=(Array.getElem?_eq_some_iff.1 hj).1
  obtain ⟨m2,hR2,hst2,hrd2⟩:=hlike.wk Mo m' _ w' hR
  have hst3:=hst.trans hst2
  have hrd3:=hrd2.trans hrd
  refine ⟨fun hr=>?_,fun r hr=>?_⟩
  ·exfalso
   cases htd:todo with
   | cons i0 tl =>
    have hi0:i0∈todo:=by rw [htd];exact List.mem_cons_self
    obtain ⟨x0,hx0,e0⟩:=List.mem_map.1 (by rw [hl];exact htl i0 hi0:i0∈ivs.map Prod.fst)
    obtain ⟨pre,y,post,e1,e2,e3⟩:=Cb ivs (fun x=>x.1∈todo) ⟨x0,hx0,by rw [e0];exact hi0⟩
    have hl2:l=pre.map Prod.fst++y.1::post.map Prod.fst:=by rw [← hl,e1];simp
    have hord2:=hord
    rw [hl2] at hord2
    obtain ⟨⟨o,ho,h1⟩,h2,h3⟩:=fP _ hord2
    have:y.1∈Region.ready .any ops listed:=jS hlisted ho (by
     rintro (h | h)
     ·exact h2 h
     ·exact h.2 e2) (fun j hj=>by
     rcases h1 j hj with h | h
     ·exact ⟨hdone j h,.inl h⟩
     ·obtain ⟨y',hy,rfl⟩:=List.mem_map.1 h
      have hyi:y' ∈ ivs:=by rw [e1];exact List.mem_append_left _ hy
      exact ⟨(hin _ (fst_in y' hyi)).2,.inr ⟨fst_in y' hyi,e3 y' hy⟩⟩)
    rw [hr] at this;cases this
   | nil =>
    subst htd
    have:j∈Region.ready .any ops listed:=jS hlisted hj (by
     rintro (h | h)
     ·exact hj1 h
     ·exact hj2 h.1) (fun q hq=>by
     rcases hja q hq with h | h
     ·exact ⟨hdone q h,.inl h⟩
     ·have hq' : q∈l:=by rw [hll];exact List.mem_append_left _ h
      exact ⟨(hin q hq').2,.inr ⟨hq',by simp⟩⟩)
    rw [hr] at this;cases this
  ·obtain ⟨hlt,hnD,o,ho,haft⟩:=lU hlisted hr
   have closed:∀ S:List Nat,(∀ q∈S,q∈done∨(q∈l∧q ∉ todo))→∀ q∈need ops l.reverse S,q∈done∨(q∈l∧q ∉ todo):=fun S hS=>Jp (ops:=ops) (q:=fun q=>q∈done∨(q∈l∧q ∉ todo)) hS (fun q hq hqq x hx=>by
    have hql:q∈l:=by simpa using hq
    rcases hqq with hqq | hqq
    ·exact absurd hqq (hin q hql).1
    ·exact hclo q hql hqq.2 x hx)
   have hcase:r∈todo∨r=j:=by
    rcases hcov r hlt with h | h | h | h
    ·exact absurd (.inl h) hnD
    ·exact .inl (Classical.byContradiction fun hc=>hnD (.inr ⟨h,hc⟩))
    ·exact .inr h
    ·exfalso
     obtain ⟨o',ho',hb⟩:=oh (hlater r h)
     rw [ho] at ho'; cases ho'
     simp only [Bool.or_eq_true,Bool.and_eq_true] at hb
     rcases hb with hb | hb
     ·obtain ⟨q,hq,hql⟩:=List.any_eq_true.1 hb
      have hql' : q∈later:=by simpa using hql
      obtain ⟨f1,f2,f3⟩:=hfresh q hql'
      rcases hlD q (haft q hq) with h' | h'
      ·exact f1 h'
      ·exact f2 h'.1
     ·rcases closed (aft o) (fun q hq=>hlD q (haft q hq)) j (by simpa using hb) with h' | h'
      ·exact hj1 h'
      ·exact hj2 h'.1
   rcases hcase with hit | rfl
   ·
    first
    | (
      have hz:todo.length=0:=hlen.symm
      rw [List.eq_nil_of_length_eq_zero hz] at hit;cases hit)
    | (
      obtain ⟨pre,v,post,o',e1,ho',hpre,hnd',hipre⟩:=split_of r (htl r hit)
      rw [ho] at ho'; cases ho'
      obtain ⟨st,hf0,hb0,hn0,hr0⟩:=hfact pre r v post e1
      have hivs:(r,v)∈ivs:=by rw [e1];simp
      obtain ⟨o3,ho3,_,hcal⟩:=calm_inv r (htl r hit)
      rw [ho] at ho3;cases ho3
      have hpi:∀ y∈pre,y∈ivs:=fun y hy=>by rw [e1];exact List.mem_append_left _ hy
      have hreads:∀ u∈readsOf ops r,lkT u (aN ops s L).ts=lkT u st.ts:=by
       intro u hu
       have hu:u∈jR ops o:=by simpa only [readsOf,ho] using hu
       rw [hr0 u]
       have hpap:Apart ops pre:=fun x hx y hy=>apart x (hpi x hx) y (hpi y hy)
       have hLap:Apart ops L:=fun x hx y hy=>apart x (hL x hx).1 y (hL y hy).1
       by_cases hex:∃ y∈ivs,aS ops y.1=some u∧y.1≠r
       ·obtain ⟨y,hy,hyd,hyi⟩:=hex
        have hya:y.1∈aft o:=by
         rcases hcal y.1 (fst_in y hy) with h2 | ⟨_,h2 | h2⟩
         ·exact absurd h2 hyi
         ·exact absurd hyd (h2 u hu)
         ·exact h2
        have hyL:y∈L:=by
         refine hL' y hy fun hyt=>?_
         rcases hlD y.1 (haft y.1 hya) with h | h
         ·exact (hin y.1 (fst_in y hy)).1 h
         ·exact h.2 hyt
        have hyp:y∈pre:=by
         rcases hpre y.1 hya with h | h
         ·exact absurd h (hin y.1 (fst_in y hy)).1
         ·obtain ⟨z,hz,e⟩:=List.mem_map.1 h
          rw [← same z (hpi z hz) y hy e];exact hz
        rw [og hLap hyL hyd,og hpap hyp hyd]
       ·rw [qH (fun y hy hd=>?_),qH (fun y hy hd=>?_)]
        ·by_cases hyi:y.1=r
         ·exact hipre (List.mem_map.2 ⟨y,hy,hyi⟩)
         ·exact hex ⟨y,hpi y hy,hd,hyi⟩
        ·by_cases hyi:y.1=r
         ·exact (hL y hy).2 (by rw [hyi];exact hit)
         ·exact hex ⟨y,(hL y hy).1,hd,hyi⟩
      obtain ⟨c1,c2,c3,c4,c5,c6⟩:=aZ (ops:=ops) (s:=s) L
      obtain ⟨o2,ho2,hf⟩:=hf0.ext (s':=aN ops s L) ⟨fun nm c hc=>by rw [c4];exact hb0.1 nm c hc,fun nm c hc=>by rw [dP L];exact hb0.2 nm c hc⟩ (by rw [c2,hn0]) hreads
      rw [ho] at ho2;cases ho2
      have hev:=hf (aN ops s L) ⟨fun _ _ h=>h,fun _ _ h=>h⟩ rfl (fun _ _=>rfl) (fun s2=>∃ s1',Like s1' (aN ops s L)∧s2=s1'.put o.dst v) (fun s1 h1=>⟨s1,h1,rfl⟩)
      rw [← hrd3]
      refine sF ho hR2 ?_ hev
      rintro m4 s4 a4 w4 ⟨s1',hs1',rfl⟩ hR4 hst4 hrd4 hds4
      rw [hrd3]
      refine ih (L++[(r,v)]) (todo.erase r) _ m4 _ a4 w4 (by rw [List.length_erase_of_mem hit];omega) (htn.erase r) (fun j hj=>htl j (List.mem_of_mem_erase hj)) ?_ ?_ ?_ hR4 (hst3.trans hst4) (hrd4.trans hrd3) (hds4.trans hdd) ?_ ?_
      ·intro x hx
       rcases List.mem_append.1 hx with h | h
       ·exact ⟨(hL x h).1,fun hc=>(hL x h).2 (List.mem_of_mem_erase hc)⟩
       ·simp only [List.mem_singleton] at h;subst h
        exact ⟨hivs,fun hc=>by rw [htn.mem_erase_iff] at hc;exact hc.1 rfl⟩
      ·intro x hx hxt
       by_cases hxi:x.1=r
       ·exact List.mem_append_right _ (by rw [same x hx _ hivs hxi];simp)
       ·exact List.mem_append_left _ (hL' x hx fun hc=>hxt ((htn.mem_erase_iff).2 ⟨hxi,hc⟩))
      ·rw [← dY ho]
       have e9:aN ops s (L++[(r,v)])=(aN ops s L).put (aS ops r) v:=by rw [mO];rfl
       rw [e9]
       exact hs1'.put _ _
      ·have hkeep:∀ x,(x∈done∨(x∈l∧x ∉ todo))→x∈done∨(x∈l∧x ∉ todo.erase r):=fun x h=>h.imp id fun h=>⟨h.1,fun hc=>h.2 (List.mem_of_mem_erase hc)⟩
       intro q hq hqt x hx
       by_cases hqr:q=r
       ·subst hqr
        have hx' : x∈aft o:=by simpa [lD,ho] using hx
        exact hkeep x (hlD x (haft x hx'))
       ·exact hkeep x (hclo q hq (fun hc=>hqt ((htn.mem_erase_iff).2 ⟨hqr,hc⟩)) x hx)
      ·refine (hlisted.set r).congr fun q=>?_
       constructor
       ·rintro ((h | h) | h)
        ·exact .inl h
        ·exact .inr ⟨h.1,fun hc=>h.2 (List.mem_of_mem_erase hc)⟩
        ·subst h;exact .inr ⟨htl q hit,fun hc=>by rw [htn.mem_erase_iff] at hc;exact hc.1 rfl⟩
       ·rintro (h | h)
        ·exact .inl (.inl h)
        ·by_cases hji:q=r
         ·exact .inr hji
         ·exact .inl (.inr ⟨h.1,fun hc=>h.2 ((htn.mem_erase_iff).2 ⟨hji,hc⟩)⟩))
   ·
    rw [hj] at ho;cases ho
    have all1:∀ q∈l1,q ∉ todo:=fun q hq hqt=>by
     have hql:q∈l:=by rw [hll];exact List.mem_append_left _ hq
     rcases closed (aft oj) (fun q hq=>hlD q (haft q hq)) q (hneed q hq) with h | h
     ·exact (hin q hql).1 h
     ·exact h.2 hqt
    have hLap:Apart ops L:=fun x hx y hy=>apart x (hL x hx).1 y (hL y hy).1
    obtain ⟨c1,c2,c3,c4,c5,c6⟩:=aZ (ops:=ops) (s:=s) L
    obtain ⟨d1,d2,d3,d4,d5,d6⟩:=aZ (ops:=ops) (s:=s) ivs1
    have hwl:∀ u,lkT u s1.ts=lkT u (aN ops s L).ts∨lkT u s1.ts = .dead:=fun u=>by
     rw [hs1.ts u]
     by_cases hex:∃ y∈ivs1,aS ops y.1=some u
     ·obtain ⟨y,hy,hyd⟩:=hex
      have hyi:y∈ivs:=by rw [hivs0];exact List.mem_append_left _ hy
      have hyL:y∈L:=hL' y hyi (all1 y.1 (by rw [← hl1];exact List.mem_map_of_mem hy))
      rw [og apart1 hy hyd,og hLap hyL hyd];exact .inl rfl
     ·rw [qH (l:=ivs1) (fun y hy hd=>hex ⟨y,hy,hd⟩)]
      by_cases hex2:∃ y∈L,aS ops y.1=some u
      ·obtain ⟨y,hy,hyd⟩:=hex2
       have hyi:=(hL y hy).1
       rw [hivs0] at hyi
       rcases List.mem_append.1 hyi with h | h
       ·exact absurd hyd (fun hd=>hex ⟨y,h,hd⟩)
       ·exact .inr ((hls y.1 (fst2 y h)).2.2 u hyd).2
      ·rw [qH (l:=L) (fun y hy hd=>hex2 ⟨y,hy,hd⟩)];exact .inl rfl
    have hwk:Wk (aN ops s L) s1:=Wk.of (by rw [hs1.rd,d1,c1]) (by rw [hs1.n,d2,c2]) (by rw [hs1.lp,d5,c5]) hwl (by rw [hs1.sv,d3,c3]) (fun nm c hc=>by rw [c4];rw [hs1.bx,d4] at hc;exact hc) (fun i hi=>by rw [c6];rw [hs1.ow,d6] at hi;exact hi) (fun nm c hc=>⟨by rw [dP L];rw [hs1.vc,dP ivs1] at hc;exact hc,fun hi=>by rw [hs1.ow,d6];rw [c6] at hi;exact hi⟩)
    obtain ⟨m3,hR3,hst4,hrd4⟩:=hwk Mo m2 _ w' hR2
    rw [← hrd3,← hrd4]
    refine Am hj hR3 ?_ hev
    intro m4 sj u w4 hk hR4 hst5 hrd5
    obtain ⟨k1,k2,k3,k4⟩:=hK sj hk
    have hstA:=(hst3.trans hst4).trans hst5
    have hstab:=hst5.GN hR3
    have hphys:∀ t,oj.dst≠some t→(a'.put oj.dst u).tmps.getD t undef=a'.tmps.getD t undef:=by
     intro t ht
     cases hdst:oj.dst with
     | none=>rfl
     | some e =>
      rw [hdst] at ht
      simp only [Act.put,Array.getD_eq_getD_getElem?]
      rw [Array.getElem?_setIfInBounds_ne (fun h=>ht (by rw [h]))]
    have hstab2:lC w' (Tot Mo (aN ops s L).bx (aN ops s L).ow m2) w4 (Tot Mo sj.bx sj.ow m4):=(hst4.GN hR2).trans hstab
    have early:∀ x∈ivs2,x∈L→∀ d,aS ops x.1=some d→aU w4 (Tot Mo sj.bx sj.ow m4) m4 x.2 ((a'.put oj.dst u).tmps.getD d undef):=by
     intro x x2 xL d hd
     have hval:=hR2.get d
     rw [og hLap xL hd] at hval
     rw [hphys d (fun e=>(hls x.1 (fst2 x x2)).1 (hd.trans e.symm))]
     have hkv:LK (oj.dst.toList++l2.filterMap (aS ops)) (aN ops s L) sj x.2:=by
      have h9:=k4 x x2
      generalize x.2=v at h9
      cases v with
      | ptr nm o =>
       obtain ⟨t,o1,o2,g1,g2,g3⟩:=h9
       refine ⟨t,o1,o2,g1,?_,g3⟩
       rcases hwl t with h | h
       ·rw [← h];exact g2
       ·rw [h] at g2;cases g2
      | _=>exact h9
     exact hkv.rep hstab2 hval (fun t=>hR2.get t) (fun t=>hR4.get t) (fun t ht=>hphys t fun e=>ht (List.mem_append_left _ (by rw [e];simp)))
    have tell:∀ (E:List (Nat×V)) (s0:Sa),(∀ x∈E,x∈ivs2∧x∈L)→s0.bx=sj.bx→s0.ow=sj.ow→Rel Mo m4 s0 (a'.put oj.dst u::sv) w4→Rel Mo m4 (aN ops s0 E) (a'.put oj.dst u::sv) w4:=by
     intro E
     induction E with
     | nil=>intro s0 _ _ _ h;exact h
     | cons x E ihE =>
      intro s0 hE hb ho h
      obtain ⟨x2,xL⟩:=hE x List.mem_cons_self
      obtain ⟨ox,hox,hds,_⟩:=calm_inv x.1 (fst_in x (inv2 x x2))
      obtain ⟨d,hd⟩:=Option.isSome_iff_exists.1 hds
      have hdd' : aS ops x.1=some d:=(dY hox).trans hd
      have e9:aN ops s0 (x::E)=aN ops (s0.put (some d) x.2) E:=by show aN ops (s0.put (aS ops x.1) x.2) E=_;rw [hdd']
      rw [e9]
      exact ihE _ (fun y hy=>hE y (List.mem_cons_of_mem _ hy)) hb ho (h.tell (by rw [hb,ho];exact early x x2 xL d hdd'))
    obtain ⟨L2,hL2⟩:∃ L2,L2=L.filter fun x=>decide (x.1∈l2):=⟨_,rfl⟩
    have mL2:∀ x,x∈L2↔x∈L∧x∈ivs2:=fun x=>by
     rw [hL2,List.mem_filter]
     constructor
     ·rintro ⟨h1,h2⟩
      refine ⟨h1,?_⟩
      have h3:=(hL x h1).1
      rw [hivs0] at h3
      rcases List.mem_append.1 h3 with h3 | h3
      ·exact absurd (of_decide_eq_true h2) (dis x.1 (by rw [← hl1];exact List.mem_map_of_mem h3))
      ·exact h3
     ·rintro ⟨h1,h2⟩
      exact ⟨h1,decide_eq_true (fst2 x h2)⟩
    have hR5:=tell L2 sj (fun x hx=>((mL2 x).1 hx).symm) rfl rfl hR4
    obtain ⟨f1,f2,f3,f4,f5,f6⟩:=aZ (ops:=ops) (s:=sj) L2
    have hst6:Step m4 sj w4 m4 (aN ops sj L2) w4:=⟨(Step.refl m4 sj w4).keeps,fun b o _ h=>by rw [f4,f6] at h;exact h,fun b _ h=>by rw [f5] at h;exact h,f1,by rw [f3],fun _ _=>rfl⟩
    have hrd6:bf m4 (aN ops sj L2)=bf m4 sj:=by unfold bf;rw [f1]
    have htd:todo.filter (fun q=>decide (q∈l2))=todo:=List.filter_eq_self.2 fun q hq=>by
     have:=htl q hq
     rw [hll] at this
     rcases List.mem_append.1 this with h | h
     ·exact absurd hq (all1 q h)
     ·exact decide_eq_true h
    have td2:∀ q∈todo,q∈l2:=fun q hq=>by
     rw [← htd,List.mem_filter] at hq
     exact of_decide_eq_true hq.2
    have hrdA:bf m4 sj=bf m s:=hrd5.trans (hrd4.trans hrd3)
    have hF2:EO P p ops hb ivs2 sj:=fun pre i v post he=>by
      obtain ⟨st,g1,g2,g3,g4⟩:=hfact2 pre i v post he
      obtain ⟨z1,z2,z3,z4,z5,z6⟩:=aZ (ops:=ops) (s:=sj) pre
      have hi2:(i,v)∈ivs2:=by rw [he];simp
      have hil2:=fst2 _ hi2
      have hpi:∀ y∈pre,y∈ivs2:=fun y hy=>by rw [he];exact List.mem_append_left _ hy
      have hpap:Apart ops pre:=fun x hx y hy=>apart x (inv2 x (hpi x hx)) y (inv2 y (hpi y hy))
      refine ⟨{ aN ops sj pre with bx:=hb.bx,vc:=hb.vc },g1.ext ⟨fun nm c hc=>g2.1 nm c hc,fun nm c hc=>g2.2 nm c hc⟩ (by show (aN ops sj pre).n=_;rw [z2,k2,g3]) fun x hx=>?_,⟨fun nm c hc=>hc,fun nm c hc=>hc⟩,z2,fun _=>rfl⟩
      show lkT x (aN ops sj pre).ts=_
      rw [g4 x]
      by_cases hex:∃ y∈pre,aS ops y.1=some x
      ·obtain ⟨y,hy,hyd⟩:=hex
       rw [og hpap hy hyd,og hpap hy hyd]
      ·rw [qH (fun y hy hd=>hex ⟨y,hy,hd⟩),qH (fun y hy hd=>hex ⟨y,hy,hd⟩)]
       refine k3 i hil2 x hx fun y hy hyd=>?_
       obtain ⟨oi,hoi,hdi,hcal⟩:=calm_inv i (in2 i hil2)
       rcases hcal y (in2 y hy) with h | ⟨_,h | h⟩
       ·subst h
        exact ((hls y hy).2.2 x hyd).1 hx
       ·exact h x (by simpa only [readsOf,hoi] using hx) hyd
       ·have hl2e:l2=pre.map Prod.fst++i::post.map Prod.fst:=by rw [← hl2,he];simp
        have hord9:=hord2
        rw [hl2e] at hord9
        obtain ⟨⟨o9,ho9,h1⟩,_,_⟩:=fP _ hord9
        rw [hoi] at ho9;cases ho9
        rcases h1 y h with h | h
        ·simp only [List.mem_cons,List.mem_append,List.mem_reverse] at h
         rcases h with h | h | h
         ·exact hj2 (h ▸ in2 y hy)
         ·exact dis y h hy
         ·exact (hin y (in2 y hy)).1 h
        ·obtain ⟨z,hz,hze⟩:=List.mem_map.1 h
         exact hex ⟨z,hz,by rw [hze];exact hyd⟩
    have hseg:=hC sj m4 w4 hk hstA hrdA hF2
     todo.length L2 todo (listed.setIfInBounds r true) m4 (aN ops sj L2) (a'.put oj.dst u) w4 rfl htn td2 (fun x hx=>⟨((mL2 x).1 hx).2,(hL x ((mL2 x).1 hx).1).2⟩) (fun x hx hxt=>(mL2 x).2 ⟨hL' x (inv2 x hx) hxt,hx⟩) (Like.refl _) hR5 hst6 hrd6 (put_defers.trans hdd)
     (fun q hq hqt x hx=>by
      simp only [List.mem_cons,List.mem_append,List.mem_reverse]
      rcases hclo q (in2 q hq) hqt x hx with h | h
      ·exact .inl (.inr (.inr h))
      ·have:=h.1
       rw [hll] at this
       rcases List.mem_append.1 this with h1 | h1
       ·exact .inl (.inr (.inl h1))
       ·exact .inr ⟨h1,h.2⟩)
     ((hlisted.set r).congr fun q=>by
      simp only [List.mem_cons,List.mem_append,List.mem_reverse,hll]
      constructor
      ·rintro ((h | ⟨h | h,h2⟩) | h)
       ·exact .inl (.inr (.inr h))
       ·exact .inl (.inr (.inl h))
       ·exact .inr ⟨h,h2⟩
       ·exact .inl (.inl h)
      ·rintro ((h | h | h) | h)
       ·exact .inr h
       ·exact .inl (.inr ⟨.inl h,all1 q h⟩)
       ·exact .inl (.inl h)
       ·exact .inl (.inr ⟨.inr h.1,h.2⟩))
    rw [hrdA] at hseg
    rw [← hlen] at hseg
    rw [hrd4.trans hrd3]
    exact hseg
theorem Oz {l2 done later:List Nat} {ivs2:List (Nat×V)} {hb:Sa} {fuel:Nat} {dd:List Deferred} (hl:ivs2.map Prod.fst=l2) (hcalm:∀ i∈l2,iM ops l2 i=true) (hord:gQ ops done l2=true)
  (hlater:∀ i∈later,zK ops i (fun al=>al.any later.contains || l2.all (need ops l2.reverse al).contains)=true) (hfresh:∀ j∈later,j ∉ done∧j ∉ l2) (hcov:∀ j<ops.size,j∈done∨j∈l2∨j∈later)
  (hdone:∀ j∈done,j<ops.size) (hfact:EO P p ops hb ivs2 s) (hbe:nK hb s) (hN:pW P ops Q n Mo m s dd sv w fuel (fun q=>q∈done∨q∈l2) (fun s'=>Like s' (aN ops s ivs2))) :
  WO P ops Q n Mo sv dd done l2 ivs2 fuel m s w:=by
 have:=EN (P:=P) (n:=n) (Q:=Q) (sv:=sv) (Mo:=Mo) (m:=m) (s:=s) (w:=w) (p:=p) (later:=later) (done:=done) (l:=l2) (ivs:=ivs2) (fuel:=fuel) (ds:=dd) hl hcalm hord hlater hfresh hcov hdone
  (fun pre i v post he=>by
   obtain ⟨st,g1,g2,g3,g4⟩:=hfact pre i v post he
   obtain ⟨z1,z2,z3,z4,z5,z6⟩:=aZ (ops:=ops) (s:=s) pre
   exact g1.ext ⟨fun nm c hc=>by rw [z4];exact hbe.1 nm c (g2.1 nm c hc),fun nm c hc=>by rw [dP pre];exact hbe.2 nm c (g2.2 nm c hc)⟩ (by grind) fun u _=>(g4 u).symm) hN
 exact this
theorem pW.step {fuel:Nat} {dd:List Deferred} {D:Nat→Prop} {k k' : Sa→Prop} {m2:Mp} {s2:Sa} {w2:World} (h:pW P ops Q n Mo m s dd sv w fuel D k) (hst:Step m s w m2 s2 w2) (hrd:bf m2 s2=bf m s) (hk:∀ s',k' s' → k s') :
  pW P ops Q n Mo m2 s2 dd sv w2 fuel D k':=fun m' s' a' w' listed hk' hR hst' hrd' hds hl=>by
 have:=h m' s' a' w' listed (hk s' hk') hR (hst.trans hst') (hrd'.trans hrd) hds hl
 grind
theorem Hg {l2 later:List Nat} {ivs2:List (Nat×V)} {val:Nat→V} {hb:Sa} {fuel:Nat} {dd:List Deferred} (hl:ivs2.map Prod.fst=l2) (hval:∀ x∈ivs2,x.2=val x.1) (hcalm:∀ i∈l2,iM ops l2 i=true) {k:Sa→Prop} :
  ∀ (js done:List Nat) (m:Mp) (s:Sa) (w:World),iy ops later js done [] l2=true→(∀ q∈later,q ∉ done∧q ∉ l2∧q ∉ js)→(∀ q<ops.size,q∈done∨q∈l2∨q∈js∨q∈later)→(∀ q∈done,q<ops.size)→EO P p ops hb ivs2 s→nK hb s→EM P p ops l2 hb val js s k →
  pW P ops Q n Mo m s dd sv w fuel (fun q=>q∈done∨q∈l2∨q∈js) (fun s'=>∃ sj,k sj∧Like s' (aN ops sj ivs2))→WO P ops Q n Mo sv dd done l2 ivs2 (fuel+js.length) m s w:=by
 intro js
 induction js with
 | nil =>
  intro done m s w hc hfr hcov hdone hF hbe hev hN
  simp only [iy,Bool.and_eq_true] at hc
  refine Oz hl hcalm hc.2.1 (List.all_eq_true.1 hc.2.2) (fun q hq=>⟨(hfr q hq).1,(hfr q hq).2.1⟩) (fun q hq=>?_) hdone hF hbe ?_
  ·grind
  ·intro m' s' a' w' listed hk hR hst hrd hds hli
   exact hN m' s' a' w' listed ⟨s,hev,hk⟩ hR hst hrd hds (hli.congr fun q=>by
    grind)
 | cons j js ih =>
  intro done m s w hc hfr hcov hdone hF hbe hev hN
  have hjs:=iV hc
  simp only [iy,Bool.and_eq_true] at hc
  obtain ⟨hord,hbs,hlat,hc⟩:=hc
  have hjs':=iV hc
  have hord2:=kS hc
  unfold Ox at hbs
  split at hbs
  case h_2=>grind
  rename_i oj hj
  obtain ⟨hja,hneed,hj1,hj2,hls⟩:=of_decide_eq_true hbs
  simp only [EM,hj] at hev
  obtain ⟨hdead,hev⟩:=hev
  intro N L todo listed m' s' a' w' hlen htn htl hL hL' hlike hR hst hrd hdd hclo hlisted
  have fst2:∀ x∈ivs2,x.1∈l2:=fun x hx=>by grind
  have:=EP (P:=P) (n:=n) (Q:=Q) (sv:=sv) (Mo:=Mo) (m:=m) (s:=s) (w:=w) (p:=p) (l1:=[]) (l2:=l2) (ivs1:=[]) (ivs2:=ivs2) (later:=js++later) (done:=done) (hb:=hb) (s1:=s) (fuel:=fuel+js.length) (dd:=dd) rfl hl (by simpa using hcalm) hord (by simpa using hord2) hj hja hneed hj1 hj2
   (fun q hq=>⟨(hls q hq).1,fun d hd=>(hls q hq).2.1 d (by rw [hd];simp),fun d hd=>⟨(hls q hq).2.2 d (by rw [hd];simp),hdead q hq d hd⟩⟩) (List.all_eq_true.1 hlat)
   (fun q hq=>by
    rcases List.mem_append.1 hq with h | h
    ·obtain ⟨h1,h2,_⟩:=hjs' q h
     simp only [List.mem_cons,List.mem_append,List.mem_reverse,not_or,List.nil_append] at h1 h2 ⊢
     exact ⟨h1.2.2,h2,h1.1⟩
    ·obtain ⟨h1,h2,h3⟩:=hfr q h
     exact ⟨h1,h2,fun e=>h3 (by rw [e];exact List.mem_cons_self)⟩)
   (fun q hq=>by
    rcases hcov q hq with h | h | h | h
    ·exact .inl h
    ·exact .inr (.inl h)
    ·rcases List.mem_cons.1 h with h | h
     ·exact .inr (.inr (.inl h))
     ·exact .inr (.inr (.inr (List.mem_append_left _ h)))
    ·exact .inr (.inr (.inr (List.mem_append_right _ h)))) hdone
   (fun pre i v post he=>by
    obtain ⟨st,g1,g2,g3,g4⟩:=hF pre i v post he
    exact ⟨st,g1,⟨fun nm c hc=>hbe.1 nm c (g2.1 nm c hc),fun nm c hc=>hbe.2 nm c (g2.2 nm c hc)⟩,g3,g4⟩) hF (Like.refl s) hev
   (fun sj hk=>⟨hk.1.1,hk.1.2.1,hk.1.2.2.1,fun x hx=>by rw [hval x hx];exact hk.1.2.2.2 x.1 (fst2 x hx)⟩)
   (fun sj m4 w4 hk hst4 hrd4 hF4=>by
    refine ih (j::([].reverse++done)) m4 sj w4 hc (fun q hq=>?_) (fun q hq=>?_) (fun q hq=>?_) hF4 hk.1.1 hk.2 ?_
    ·obtain ⟨h1,h2,h3⟩:=hfr q hq
     refine ⟨?_,h2,fun h=>h3 (List.mem_cons_of_mem _ h)⟩
     simp only [List.reverse_nil,List.nil_append,List.mem_cons,not_or]
     exact ⟨fun e=>h3 (by rw [e];exact List.mem_cons_self),h1⟩
    ·simp only [List.reverse_nil,List.nil_append,List.mem_cons]
     rcases hcov q hq with h | h | h | h
     ·exact .inl (.inr h)
     ·exact .inr (.inl h)
     ·rcases List.mem_cons.1 h with h | h
      ·exact .inl (.inl h)
      ·exact .inr (.inr (.inl h))
     ·exact .inr (.inr (.inr h))
    ·simp only [List.reverse_nil,List.nil_append,List.mem_cons] at hq
     rcases hq with h | h
     ·subst h;exact (Array.getElem?_eq_some_iff.1 hj).1
     ·exact hdone q h
    ·intro m5 s5 a5 w5 li5 hk5 hR5 hst5 hrd5 hds5 hli5
     have h9:=hN m5 s5 a5 w5 li5 hk5 hR5 (hst4.trans hst5) (hrd5.trans hrd4) hds5 (hli5.congr fun q=>by
      simp only [List.reverse_nil,List.nil_append,List.mem_cons]
      constructor
      ·rintro ((h | h) | h | h)
       ·exact .inr (.inr (.inl h))
       ·exact .inl h
       ·exact .inr (.inl h)
       ·exact .inr (.inr (.inr h))
      ·rintro (h | h | h | h)
       ·exact .inl (.inr h)
       ·exact .inr (.inl h)
       ·exact .inl (.inl h)
       ·exact .inr (.inr h))
     rw [hrd4];exact h9)
   N L todo listed m' s' a' w' hlen.symm htn htl hL hL' hlike hR hst hrd hdd hclo hlisted
  grind
end Go.Ab
namespace Go.Ab
open Go Go.RowKit
variable {P:Program} {a:Act} {w:World} {n:Nat} {Mo:Cells} {m:Mp} {s:Sa} {p:Name} {k:Sa→Prop} {Q:Exit→Act→World→Prop} {sv:List Act} {ops:Array Oper}
theorem listed_none:Listed ops (Array.replicate ops.size false) (· ∈ ([]:List Nat)):=by
 refine ⟨by simp,fun j hj=>?_⟩
 simp [hj]
theorem LM:∀ (plan:List Seg) (done:List Nat) (listed:Array Bool) (m:Mp) (s:Sa) (a:Act) (w:World),jB ops done plan=true→(∀ j∈done,j<ops.size)→Listed ops listed (· ∈ done) →
  Rel Mo m s (a::sv) w→uq Mo m s a.defers sv w k Q→kT P p ops plan s k→wpAnyIn (Wd (bf m s)) n P .any ops Q (flat plan).length listed a w:=by
 intro plan
 induction plan with
 | nil =>
  intro done listed m s a w hp hdn hlisted hR hN h
  simp only [jB,Bool.and_eq_true] at hp
  refine ⟨?_,hN m s a w h hR (Step.refl _ _ _) rfl rfl⟩
  refine List.eq_nil_iff_forall_not_mem.2 fun i hi=>?_
  obtain ⟨h1,h2,_⟩:=lU hlisted hi
  simp_all
 | cons x rest ih =>
  intro done listed m s a w hp hdn hlisted hR hN h
  cases x with
  | calm l =>
   have hfr:=fG hp
   simp only [jB,Bool.and_eq_true] at hp
   have hfr2:=fG hp.2.2.2
   have hcalm:∀ i∈l,iM ops l i=true:=List.all_eq_true.1 hp.1
   have hnd:=dZ hp.2.1
   simp only [kT] at h
   obtain ⟨ivs,s1,h1,h2,h3,h4⟩:=xu l (fun i hi=>by
    grind [iM]) h
   have e:(flat (.calm l::rest)).length=(flat rest).length+l.length:=by grind
   rw [e]
   refine EN (later:=flat rest) (done:=done) h1 hcalm hp.2.1 (List.all_eq_true.1 hp.2.2.1) (fun j hj=>?_) (fun j hj=>?_) hdn h4 ?_ l.length [] l listed m s a w rfl hnd.1 (fun j hj=>hj) (fun x hx=>by grind)
    (fun x hx hxl=>absurd (by grind) hxl) (Like.refl s) hR (Step.refl _ _ _) rfl rfl (fun j hj hjt=>absurd hj hjt) (hlisted.congr fun j=>?_)
   ·grind
   ·grind
   ·intro m' s' a' w' listed' hlike hR' hst hrd hds hlisted'
    obtain ⟨m2,hR2,hst2,hrd2⟩:=(hlike.trans h2.symm).wk Mo m' _ w' hR'
    have:=ih (l.reverse++done) listed' m2 s1 a' w' hp.2.2.2 (fun j hj=>?_) (hlisted'.congr fun j=>?_) hR2 (by rw [hds];exact hN.step (hst.trans hst2) (hrd2.trans hrd)) h3
    ·grind
    ·grind
    grind
   grind
  | bar i =>
   have hfr:=fG hp
   simp only [jB,Bool.and_eq_true] at hp
   have hfr2:=fG hp.2.2
   simp only [kT] at h
   obtain ⟨⟨o,ho,hao⟩,hid,_⟩:=fP [] (post:=[]) hp.1
   rw [ho] at h
   simp only at h
   have hilt:i<ops.size:=(Array.getElem?_eq_some_iff.1 ho).1
   have e:(flat (.bar i::rest)).length=(flat rest).length+1:=by simp [flat,Seg.idx]
   rw [e]
   refine ⟨fun hr=>?_,fun j hj=>?_⟩
   ·have:i∈Region.ready .any ops listed:=jS hlisted ho hid (fun j hj=>by
     rcases hao j hj with h | h
     ·exact ⟨hdn j h,h⟩
     ·cases h)
    rw [hr] at this;cases this
   ·obtain ⟨hlt,hnD,o',ho',haft⟩:=lU hlisted hj
    have hji:j=i:=by
     refine Classical.byContradiction fun hne=>?_
     have hjr:j∈flat rest:=by
      rcases hfr.2.1 j hlt with h | h
      ·exact absurd h hnD
      ·simp only [flat,Seg.idx,List.cons_append,List.nil_append,List.mem_cons] at h
       exact h.resolve_left hne
     obtain ⟨o2,ho2,hb⟩:=oh (List.all_eq_true.1 hp.2.1 j hjr)
     rw [ho'] at ho2;cases ho2
     obtain ⟨q,hq,hqi⟩:=List.any_eq_true.1 hb
     have hqi' : q=i∨q∈flat rest:=by simpa using hqi
     have h1:=haft q hq
     have hqs:q<ops.size:=by
      have:q<listed.size:=by
       rcases Nat.lt_or_ge q listed.size with h' | h'
       ·exact h'
       ·simp [Array.getElem?_eq_none h'] at h1
      rw [← hlisted.1];exact this
     have h2:=(hlisted.false' hqs).1 h1
     rcases hqi' with h3 | h3
     ·subst h3;exact hid h2
     ·exact hfr2.1 q h3 (List.mem_cons_of_mem _ h2)
    subst hji
    refine sF ho hR ?_ h
    intro m' s' a' w' hk hR' hst hrd hds
    have:=ih (j::done) (listed.setIfInBounds j true) m' s' a' w' hp.2.2 (fun q hq=>?_) ((hlisted.set j).congr fun q=>?_) hR' (by rw [hds];exact hN.step hst hrd) hk
    ·rw [hrd] at this;exact this
    ·rcases List.mem_cons.1 hq with h | h
     ·subst h;exact hilt
     ·exact hdn q h
    ·simp only [List.mem_cons];exact ⟨Or.symm,Or.symm⟩
  | beside l1 l2 js0 =>
   have hfr:=fG hp
   simp only [jB,Bool.and_eq_true] at hp
   have hfr2:=fG hp.2.2.2
   have hcalm:∀ i∈l1++l2,iM ops (l1++l2) i=true:=List.all_eq_true.1 hp.1
   have hord0:=kS hp.2.2.1
   have hnd:=dZ hord0
   have hjs0:=iV hp.2.2.1
   have hc0:=hp.2.2.1
   cases js0 with
   | nil=>exact absurd hp.2.1 (by simp)
   | cons j js =>
   simp only [iy,Bool.and_eq_true] at hc0
   obtain ⟨_,hbs,hlat,hch⟩:=hc0
   have hjs1:=iV hch
   unfold Ox at hbs
   split at hbs
   case h_2=>cases hbs
   rename_i oj hj
   obtain ⟨hja,hneed,hj1,hj2,hls⟩:=of_decide_eq_true hbs
   have hc' : ∀ i∈l1++l2,∃ o,ops[i]? = some o∧calm o.op=true:=fun i hi=>by
    have:=hcalm i hi
    unfold iM at this
    split at this
    ·rename_i o ho;simp only [Bool.and_eq_true] at this;exact ⟨o,ho,this.1⟩
    ·cases this
   simp only [kT] at h
   obtain ⟨hdead,h⟩:=h
   obtain ⟨ivs1,s1,g1,g2,g3,g4⟩:=xu l1 (fun i hi=>hc' i (List.mem_append_left _ hi)) h
   obtain ⟨H,g3⟩:=g3
   obtain ⟨ivs2,s2,e1,e2,e3,e4⟩:=xu l2 (fun i hi=>hc' i (List.mem_append_right _ hi)) g3
   simp only [EM,hj] at e3
   obtain ⟨_,e3⟩:=e3
   have fst2:∀ x∈ivs2,x.1∈l2:=fun x hx=>by rw [← e1];exact List.mem_map.2 ⟨x,hx,rfl⟩
   have nd2:(ivs2.map Prod.fst).Nodup:=by rw [e1];exact (List.nodup_append.1 hnd.1).2.1
   have same2:∀ x∈ivs2,∀ y∈ivs2,x.1=y.1→x=y:=by
    intro x hx y hy e
    obtain ⟨i,hi,rfl⟩:=List.getElem_of_mem hx
    obtain ⟨j,hj,rfl⟩:=List.getElem_of_mem hy
    have:=(List.getElem_inj (xs:=ivs2.map Prod.fst) (h₀:=by simpa using hi) (h₁:=by simpa using hj) nd2).1 (by simpa using e)
    subst this;rfl
   have apart2:Apart ops ivs2:=by
    intro x hx y hy t h1 h2
    refine same2 x hx y hy ?_
    have hc:=hcalm x.1 (List.mem_append_right _ (fst2 x hx))
    unfold iM at hc
    split at hc
    ·rename_i o ho
     simp only [Bool.and_eq_true] at hc
     have:=List.all_eq_true.1 hc.2.2 y.1 (List.mem_append_right _ (fst2 y hy))
     simp only [Bool.or_eq_true,beq_iff_eq,Bool.and_eq_true,bne_iff_ne] at this
     rcases this with h | ⟨h,_⟩
     ·exact h.symm
     ·exact absurd (by rw [h2,← dY ho,h1]) h
    ·cases hc
   have Hw:∀ x∈ivs2,x.2=lkD (aS ops x.1) s2:=fun x hx=>by
    obtain ⟨o,ho,_⟩:=hc' x.1 (List.mem_append_right _ (fst2 x hx))
    have hc:=hcalm x.1 (List.mem_append_right _ (fst2 x hx))
    simp only [iM,ho,Bool.and_eq_true] at hc
    obtain ⟨d,hd⟩:=Option.isSome_iff_exists.1 hc.2.1
    have hdd:aS ops x.1=some d:=(dY ho).trans hd
    rw [hdd]
    show x.2=lkT d s2.ts
    rw [e2.ts d,og apart2 hx hdd]
   have ivs2e:ivs2=l2.map fun q=>(q,lkD (aS ops q) s2):=by
    rw [← e1,List.map_map]
    conv=>lhs;rw [← List.map_id ivs2]
    exact List.map_congr_left fun x hx=>by simp only [id,Function.comp,← Hw x hx]
   have e:(flat (.beside l1 l2 (j::js)::rest)).length=(flat rest).length+js.length+((l1++l2).length+1):=by simp only [flat,Seg.idx,List.length_append,List.length_cons,List.length_nil];omega
   rw [e]
   obtain ⟨d1,d2,d3,d4,d5,d6⟩:=aZ (ops:=ops) (s:=s) ivs1
   refine EP (l1:=l1) (l2:=l2) (later:=js++flat rest) (done:=done) (hb:=hide H s1) (fuel:=(flat rest).length+js.length) (dd:=a.defers) g1 e1 hcalm hord0 (kS hch) hj hja hneed hj1 hj2 (fun q hq=>⟨(hls q hq).1,fun d hd=>(hls q hq).2.1 d (by rw [hd];simp),fun d hd=>⟨(hls q hq).2.2 d (by rw [hd];simp),hdead q hq d hd⟩⟩) (List.all_eq_true.1 hlat) (fun q hq=>?_) (fun q hq=>?_) hdn
    (fun pre i v post he=>?_) (fun pre i v post he=>?_) g2 e3 (fun sj hk=>⟨hk.1.1,hk.1.2.1,hk.1.2.2.1,fun x hx=>by rw [Hw x hx];exact hk.1.2.2.2 x.1 (fst2 x hx)⟩) (fun sj m4 w4 hk hst4 hrd4 hF4=>?_) _ [] (l1++l2) listed m s a w rfl hnd.1 (fun j hj=>hj) (fun x hx=>by cases hx)
    (fun x hx hxl=>absurd (by
     rcases List.mem_append.1 hx with h | h
     ·exact List.mem_append_left _ (by rw [← g1];exact List.mem_map_of_mem h)
     ·exact List.mem_append_right _ (fst2 x h)) hxl) (Like.refl s) hR (Step.refl _ _ _) rfl rfl (fun q hq hqt=>absurd hq hqt) (hlisted.congr fun q=>?_)
   ·rcases List.mem_append.1 hq with hq | hq
    ·obtain ⟨h1,h2,_⟩:=hjs1 q hq
     simp only [List.mem_cons,List.mem_append,List.mem_reverse,not_or,List.nil_append] at h1 h2 ⊢
     exact ⟨h1.2.2,⟨h1.2.1,h2⟩,h1.1⟩
    ·have:=hfr2.1 q hq
     simp only [List.mem_cons,List.mem_append,List.mem_reverse,not_or] at this ⊢
     exact ⟨this.2.2,this.2.1,this.1.1⟩
   ·rcases hfr.2.1 q hq with h | h
    ·exact .inl h
    ·simp only [flat,Seg.idx,List.mem_append,List.mem_cons] at h
     rcases h with (h | h | h | h) | h
     ·exact .inr (.inl (List.mem_append_left _ h))
     ·exact .inr (.inl (List.mem_append_right _ h))
     ·exact .inr (.inr (.inl h))
     ·exact .inr (.inr (.inr (List.mem_append_left _ h)))
     ·exact .inr (.inr (.inr (List.mem_append_right _ h)))
   ·
    by_cases hin:pre.length<ivs1.length
    ·have hp1:∃ post1,ivs1=pre++(i,v)::post1:=by
      refine ⟨ivs1.drop (pre.length+1),?_⟩
      have h1:(ivs1++ivs2).take (pre.length+1)=(pre++(i,v)::post).take (pre.length+1):=by rw [he]
      rw [List.take_append_of_le_length (by omega)] at h1
      have h2:(pre++(i,v)::post).take (pre.length+1)=pre++[(i,v)]:=by rw [List.take_append,List.take_of_length_le (by omega)];simp
      rw [h2] at h1
      conv=>lhs;rw [← List.take_append_drop (pre.length+1) ivs1,h1]
      simp
     obtain ⟨post1,hp1⟩:=hp1
     obtain ⟨z1,z2,z3,z4,z5,z6⟩:=aZ (ops:=ops) (s:=s) pre
     exact ⟨_,g4 pre i v post1 hp1,⟨fun nm c hc=>by rw [z4] at hc;exact hc,fun nm c hc=>by rw [dP pre] at hc;exact hc⟩,z2,fun _=>rfl⟩
    ·have hp2:∃ pre2,pre=ivs1++pre2∧ivs2=pre2++(i,v)::post:=by
      refine ⟨pre.drop ivs1.length,?_,?_⟩
      ·have h1:(ivs1++ivs2).take ivs1.length=(pre++(i,v)::post).take ivs1.length:=by rw [he]
       rw [List.take_append_of_le_length (Nat.le_refl _),List.take_length,List.take_append_of_le_length (by omega)] at h1
       rw [h1]
       conv=>lhs;rw [← List.take_append_drop ivs1.length pre]
       rw [List.length_take,Nat.min_eq_left (by omega)]
      ·have h1:(ivs1++ivs2).drop ivs1.length=(pre++(i,v)::post).drop ivs1.length:=by rw [he]
       rw [List.drop_append_of_le_length (Nat.le_refl _),List.drop_length,List.nil_append,List.drop_append_of_le_length (by omega)] at h1
       exact h1
     obtain ⟨pre2,rfl,hp2⟩:=hp2
     obtain ⟨z1,z2,z3,z4,z5,z6⟩:=aZ (ops:=ops) (s:=hide H s1) pre2
     refine ⟨_,e4 pre2 i v post hp2,⟨fun nm c hc=>?_,fun nm c hc=>?_⟩,by rw [z2];show s1.n=_;rw [g2.n,d2],fun u=>?_⟩
     ·rw [z4] at hc
      simp only [hide,lV] at hc
      split at hc
      ·cases hc
      ·rw [g2.bx,d4] at hc;exact hc
     ·rw [dP pre2] at hc
      simp only [hide,lV] at hc
      split at hc
      ·cases hc
      ·rw [g2.vc,dP ivs1] at hc;exact hc
     ·rw [mO]
      exact xw pre2 (A:=hide H s1) (fun t=>g2.ts t) u
   ·obtain ⟨z1,z2,z3,z4,z5,z6⟩:=aZ (ops:=ops) (s:=hide H s1) pre
    refine ⟨_,e4 pre i v post he,⟨fun nm c hc=>by rw [z4] at hc;exact hc,fun nm c hc=>by rw [dP pre] at hc;exact hc⟩,by rw [z2];rfl,fun u=>?_⟩
    exact xw pre (A:=hide H s1) (B:=s1) (fun _=>rfl) u
   ·refine Hg (later:=flat rest) (val:=fun q=>lkD (aS ops q) s2) (hb:=hide H s1) e1 Hw (fun i hi=>?_) js (j::(l1.reverse++done)) m4 sj w4 hch (fun q hq=>?_) (fun q hq=>?_) (fun q hq=>?_) hF4 hk.1.1 hk.2 ?_
    ·exact Tt (fun q hq=>List.mem_append_right _ hq) (hcalm i (List.mem_append_right _ hi))
    ·have:=hfr2.1 q hq
     simp only [List.mem_cons,List.mem_append,List.mem_reverse,not_or] at this ⊢
     exact ⟨⟨this.1.1,this.2.1.1,this.2.2⟩,this.2.1.2,this.1.2⟩
    ·rcases hfr.2.1 q hq with h | h
     ·exact .inl (by simp [h])
     ·simp only [flat,Seg.idx,List.mem_append,List.mem_cons] at h
      rcases h with (h | h | h | h) | h
      ·exact .inl (by simp [h])
      ·exact .inr (.inl h)
      ·exact .inl (by simp [h])
      ·exact .inr (.inr (.inl h))
      ·exact .inr (.inr (.inr h))
    ·simp only [List.mem_cons,List.mem_append,List.mem_reverse] at hq
     rcases hq with h | h | h
     ·subst h;exact (Array.getElem?_eq_some_iff.1 hj).1
     ·exact (hnd.2 q (List.mem_append_left _ h)).2
     ·exact hdn q h
    ·rintro m' s' a' w' listed' ⟨sj',hk',hlike⟩ hR' hst hrd hds hlisted'
     rw [ivs2e] at hlike
     obtain ⟨m2,hR2,hst2,hrd2⟩:=hlike.wk Mo m' _ w' hR'
     have hrdA:=hrd.trans hrd4
     have:=ih ((j::js).reverse++((l1++l2).reverse++done)) listed' m2 _ a' w' hp.2.2.2 (fun q hq=>?_) (hlisted'.congr fun q=>?_) hR2 (by rw [hds];exact hN.step ((hst4.trans hst).trans hst2) (hrd2.trans hrdA)) hk'
     ·rw [hrd2,hrd] at this;exact this
     ·simp only [List.mem_append,List.mem_reverse] at hq
      rcases hq with h | (h | h) | h
      ·exact (hjs0 q h).2.2
      ·exact (hnd.2 q (List.mem_append_left _ h)).2
      ·exact (hnd.2 q (List.mem_append_right _ h)).2
      ·exact hdn q h
     ·simp only [List.mem_append,List.mem_reverse,List.mem_cons]
      constructor
      ·rintro ((h | h | h) | h | h)
       ·exact .inl (.inl h)
       ·exact .inr (.inl (.inl h))
       ·exact .inr (.inr h)
       ·exact .inr (.inl (.inr h))
       ·exact .inl (.inr h)
      ·rintro ((h | h) | (h | h) | h)
       ·exact .inl (.inl h)
       ·exact .inr (.inr h)
       ·exact .inl (.inr (.inl h))
       ·exact .inr (.inl h)
       ·exact .inl (.inr (.inr h))
   ·constructor
    ·exact .inl
    ·rintro (h | h)
     ·exact h
     ·exact absurd h.1 h.2
theorem WQ {id:Nat} {Q:Ex→Sa→Prop} (plan:List Seg) (hm:P.follows .mixedOrders=true) (hp:jB ops [] plan=true) (h:kT P p ops plan s (Q .norm)):TC P p (.region id ops true) s Q:=fun Mo m a sv w n hR=>by
 have hb:Below w.heap.size w { w with drawn:=w.drawn+1 }:=⟨rfl,rfl,rfl,Nat.le_refl _,fun _ _=>rfl⟩
 have hlen:=(fG hp).2.2
 simp only [List.length_nil,Nat.zero_add] at hlen
 refine wpIn_region_any hm ?_
 rw [← hlen]
 rw [show Array.replicate (flat plan).length false=Array.replicate ops.size false by grind]
 refine LM plan [] _ m s a _ hp (fun j hj=>by grind) listed_none (hR.below hb) ?_ h
 intro m' s' a' w' hk hR' hs hr hd
 exact ⟨.norm,m',s',rfl,hk,hR',(Step.of_below hb).trans hs,hr,by rw [hd];exact .refl⟩
end Go.Ab
namespace Go.Ab
open Go Go.RowKit
variable {P:Program} {w:World} {n:Nat} {Mo:Cells} {m:Mp} {s:Sa} {as:List Act} {p:Name}
def aT (s:Sa) (l:Name) (q:Lp):Sa:={ s with lp:=cO l q s.lp }
theorem Rel.xA {l:Name} {q q' : Lp} {r r' : Loop} (h:Rel Mo m s as w) (hl:aj l s.lp=some q) (hr:w.heap[m.lp l]? = some (.loop r))
  (hq:q'.depth=q.depth∧q'.ps=q.ps∧q'.assign=q.assign∧q'.body=q.body) (hr' : r'.params=r.params∧r'.assign=r.assign∧r'.body=r.body∧r'.tmps=r.tmps)
  (hst:match q'.pending with | none=>r'.state = .ready∧r'.pending=none | some (some j)=>r'.state = .done∧r'.pending=some j | some none=>r'.state = .busy) :
  Rel Mo m (aT s l q') as (w.putObj (m.lp l) (.loop r')):=by
 have hne:∀ (b:Nat) (x:Obj),w.heap[b]? = some x→(∀ y,x ≠ .loop y)→(w.putObj (m.lp l) (.loop r')).heap[b]? = some x:=by
  grind [World.putObj_heap_other]
 have hstab:lC w (Tot Mo s.bx s.ow m) (w.putObj (m.lp l) (.loop r')) (Tot Mo s.bx s.ow m):=by
  intro b j c hc hm
  grind [World.cell?]
 have hsp:∀ i sz v,bU w m i sz v→bU (w.putObj (m.lp l) (.loop r')) m i sz v:=by
  intro i sz v hs
  unfold bU at hs ⊢
  split at hs
  ·grind
  ·grind
  grind
 have hrep:∀ v c,aU w (Tot Mo s.bx s.ow m) m v c→aU (w.putObj (m.lp l) (.loop r')) (Tot Mo s.bx s.ow m) m v c:=fun v c hv=>hv.mono hstab (fun _ _=>rfl) (fun i _ sz v hs=>hsp i sz v hs) (fun _ _=>rfl)
 have hlook:∀ nm x,aj nm (aT s l q').lp=some x→(nm=l∧x=q')∨(nm≠l∧aj nm s.lp=some x):=by
  grind [aT,iR]
 refine ⟨h.len,?_,?_,h.inj,?_,h.owx,h.owb,?_,?_,?_,fun b j hm=>by rw [World.putObj_size];exact h.mo b j hm,h.mks,h.owm,fun k d hk=>⟨(h.vec k d hk).1,(h.vec k d hk).2.putObj hr (by simp) hstab⟩⟩
 ·intro i hi hi'
  have h0:=h.fr i hi hi'
  refine ⟨h0.size,fun t=>hrep _ _ (h0.ts t),fun d hd=>?_⟩
  obtain ⟨x,e,hx⟩:=h0.def_ d hd
  exact ⟨x,e,hne _ _ hx (by simp)⟩
 ·intro nm c hn
  obtain ⟨cs,T,hb⟩:=h.box nm c hn
  exact ⟨cs,T,hb.heap.mono (fun o ho _ h2=>hne _ _ ho h2),hb.size,hb.leafs,fun i hi=>hrep _ _ (hb.rep i hi)⟩
 ·intro i hi hn
  obtain ⟨c,T,h1,h2⟩:=h.oww i hi hn
  exact ⟨c,T,hne _ _ h1 (by simp),h2⟩
 ·intro nm x hx
  rcases hlook nm x hx with ⟨rfl,rfl⟩ | ⟨hnm,hx⟩
  ·obtain ⟨rc,b,hy⟩:=h.lps nm q hl
   have e:=hy.heap
   rw [hr] at e
   cases e
   refine ⟨r',b,⟨?_,hr'.1.trans (hy.ps.trans hq.2.1.symm),hr'.2.1.trans (hy.assign.trans hq.2.2.1.symm),hr'.2.2.1.trans (hy.body.trans hq.2.2.2.symm),by rw [hq.1];exact hy.own,hr'.2.2.2.trans hy.tmps,hst⟩⟩
   exact World.putObj_heap_same (Array.getElem?_eq_some_iff.1 hr).1
  ·obtain ⟨rc,b,hy⟩:=h.lps nm x hx
   refine ⟨rc,b,⟨?_,hy.ps,hy.assign,hy.body,hy.own,hy.tmps,hy.stat⟩⟩
   have:m.lp nm≠m.lp l:=fun e=>hnm (h.lpi nm x l q hx hl e)
   rw [World.putObj_heap_other this];exact hy.heap
 ·intro nm x hx
  rcases hlook nm x hx with ⟨rfl,rfl⟩ | ⟨_,hx⟩
  ·rw [hq.1];exact h.dep nm q hl
  ·exact h.dep nm x hx
 ·intro n1 x1 n2 x2 h1 h2 e
  have:∀ nm x,aj nm (aT s l q').lp=some x→∃ y,aj nm s.lp=some y:=fun nm x hx=>by
   rcases hlook nm x hx with ⟨rfl,rfl⟩ | ⟨_,hx⟩
   ·exact ⟨q,hl⟩
   ·exact ⟨x,hx⟩
  obtain ⟨y1,e1⟩:=this n1 x1 h1
  obtain ⟨y2,e2⟩:=this n2 x2 h2
  exact h.lpi n1 y1 n2 y2 e1 e2 e
theorem Step.xA {l:Name} {q q' : Lp} {r' : Loop} (hl:aj l s.lp=some q) (hlt:m.lp l<w.heap.size):Step m s w m (aT s l q') (w.putObj (m.lp l) (.loop r')):=by
 have hL:LpB s.lp m (m.lp l):=⟨l,q,hl,rfl⟩
 refine ⟨⟨rfl,rfl,rfl,by simp,fun b hb _ hn=>?_,fun b c T f hc hn=>?_⟩,fun b o _ h=>h,?_,rfl,rfl,fun _ _=>rfl⟩
 ·grind [World.putObj_heap_other]
 ·grind [World.putObj_heap_other]
 ·rintro b _ ⟨nm,x,hx,rfl⟩
  simp only [aT,iR,hl,Option.map_some] at hx
  split at hx
  ·grind
  ·exact ⟨nm,x,hx,rfl⟩
theorem Tv (l:Name) (q q' : Lp) (h:q'.depth=q.depth):∀ lp:List (Name×Lp),aj l lp=some q→lpD (cO l q' lp)=lpD lp:=by
 intro lp
 induction lp with
 | nil=>intro hl;rfl
 | cons x lp ih =>
  grind [aj,cO,lpD]
def qI:List Nat→List V→List (Nat×V)→List (Nat×V)
 | t::ts,v::vs,l=>qI ts vs (GI t v l)
 | _,_,l=>l
def frames (s:Sa):List Fr:={ rd:=s.rd,n:=s.n,ts:=s.ts }::s.sv
def Sa.round (s:Sa) (l:Name) (f:Fr) (ps:List Nat) (args:List V):Sa:={ rd:=some l,n:=f.n,ts:=qI ps args f.ts,sv:={ rd:=s.rd,n:=s.n,ts:=s.ts }::s.sv,bx:=s.bx,lp:=s.lp,ow:=s.ow,vc:=s.vc }
theorem Hl {M:Cells}:∀ (ps:List Nat) (args:List V) (vs:List Value) (ts:List (Nat×V)) (tmps:Array Value) (nn:Nat),tmps.size=nn→(∀ t∈ps,t<nn)→args.length=vs.length→aaW w M m ts tmps →
  (∀ i (h1:i<args.length) (h2:i<vs.length),aU w M m args[i] vs[i]) →
  aaW w M m (qI ps args ts) ((ps.zip vs).foldl (fun tmps x=>tmps.setIfInBounds x.1 x.2) tmps)∧((ps.zip vs).foldl (fun tmps x=>tmps.setIfInBounds x.1 x.2) tmps).size=nn:=by
 intro ps
 induction ps with
 | nil=>intro args vs ts tmps nn hn _ _ h _;exact ⟨by cases args <;> simpa [qI] using h,by simp_all⟩
 | cons t ps ih =>
  intro args vs ts tmps nn hn hps hlen h hr
  cases args with
  | nil=>cases vs with
   | nil=>exact ⟨by simpa [qI] using h,by simp_all⟩
   | cons v vs=>grind
  | cons x args=>cases vs with
   | nil=>grind
   | cons v vs =>
    simp only [qI,List.zip_cons_cons,List.foldl_cons]
    refine ih args vs _ _ nn (by grind) (fun u hu=>hps u (List.mem_cons_of_mem _ hu)) (by grind) ?_ (fun i h1 h2=>hr (i+1) (by grind) (by grind))
    intro u
    have ht:t<tmps.size:=by simp_all
    rw [Je]
    split
    ·rename_i e;subst e
     rw [Array.getD_eq_getD_getElem?,Array.getElem?_setIfInBounds_self_of_lt ht]
     exact hr 0 (by simp) (by simp)
    ·rename_i e
     have:=h u
     rw [Array.getD_eq_getD_getElem?] at this ⊢
     rw [Array.getElem?_setIfInBounds_ne (fun e'=>e e'.symm)];exact this
theorem Rel.round {l:Name} {q:Lp} {f:Fr} {args:List V} {vs:Array Value} {r:Loop} {a:Act} (h:Rel Mo m s as w) (hl:aj l s.lp=some q) (hx:Y4 w m l q as r a) (hf:(frames s).reverse[q.depth]? = some f)
  (hps:∀ t∈q.ps.toList,t<f.n) (hlen:args.length=q.ps.size) (ha:jQ w (Tot Mo s.bx s.ow m) m args vs) :
  Rel Mo m (s.round l f q.ps.toList args) ({ tmps:=(q.ps.toList.zip vs.toList).foldl (fun tmps x=>tmps.setIfInBounds x.1 x.2) r.tmps,defers:=[] }::as) w:=by
 have hfr:BG w (Tot Mo s.bx s.ow m) m f a:=by
  have h1:=hx.own
  have hlenf:(frames s).length=as.length:=by simp [frames,h.len]
  obtain ⟨i1,e1⟩:=List.getElem?_eq_some_iff.1 h1
  obtain ⟨i2,e2⟩:=List.getElem?_eq_some_iff.1 hf
  rw [List.getElem_reverse] at e1 e2
  have hi:(frames s).length - 1 - q.depth<(frames s).length:=by simp at i2;omega
  have h0:=h.fr ((frames s).length - 1 - q.depth) hi (by omega)
  have e3:as[(frames s).length - 1 - q.depth]'(by omega)=a:=by rw [← e1];congr 1;omega
  have e4:(frames s)[(frames s).length - 1 - q.depth]'hi=f:=e2
  rw [e3] at h0
  have:(({ rd:=s.rd,n:=s.n,ts:=s.ts }:Fr)::s.sv)[(frames s).length - 1 - q.depth]'hi=f:=e4
  rw [this] at h0
  exact h0
 have hts:=Hl (w:=w) (m:=m) (M:=Tot Mo s.bx s.ow m) q.ps.toList args vs.toList f.ts r.tmps f.n (by rw [hx.tmps];exact hfr.size) hps (by simp [ha.1]) (by rw [hx.tmps];exact hfr.ts) (fun i h1 h2=>by
  have:=ha.2 i h1
  rw [Array.getD_eq_getD_getElem?,Array.getElem?_eq_getElem (by simpa using h2)] at this
  simpa using this)
 refine ⟨by simp [Sa.round,h.len],?_,h.box,h.inj,h.oww,h.owx,h.owb,?_,?_,h.lpi,h.mo,?_,h.owm,h.vec⟩
 ·intro i hi hi'
  cases i with
  | zero=>exact ⟨hts.2,fun t=>hts.1 t,fun d hd=>by simp at hd⟩
  | succ i=>exact h.fr i (by simpa [Sa.round] using hi) (by simpa using hi')
 ·intro nm x hl
  obtain ⟨r,a,hr⟩:=h.lps nm x hl
  refine ⟨r,a,⟨hr.heap,hr.ps,hr.assign,hr.body,?_,hr.tmps,hr.stat⟩⟩
  have:=hr.own
  have hd:=h.dep nm x hl
  rw [List.reverse_cons,List.getElem?_append_left (by simp;omega)];exact this
 ·intro nm x hl
  have:=h.dep nm x hl
  simp;omega
 ·have:=h.mks
  simpa [marks] using this
end Go.Ab
namespace Go.Ab
open Go Go.RowKit
variable {P:Program} {w:World} {n:Nat} {Mo:Cells} {m:Mp} {s:Sa} {as:List Act} {p:Name}
def jmp:Ex→Option (Option Code)
 | .norm=>none
 | .exit i=>some (some (.exit i))
 | .ret=>some (some .ret)
def OA:Ex→Bool
 | .norm=>true
 | _=>false
def abD (l:Name) (s:Sa) (k:V→Sa→Prop) (e:Ex) (s2:Sa):Prop :=
 s2.sv.length=s.sv.length+1∧lpD s2.lp=lpD s.lp∧match aj l s2.lp with
  | some q2=>k (.d (.b (OA e))) (aT s2 l { q2 with pending:=jmp e }).pop
  | none=>False
end Go.Ab
namespace Go.Ab
open Go Go.RowKit
variable {P:Program} {w:World} {n:Nat} {Mo:Cells} {m:Mp} {s:Sa} {as:List Act} {p:Name}
mutual
def V.jC (n:Name):V→Bool
 | .yld m=>m==n
 | .fn _ c=>V.jv n c
 | .agg c=>V.jv n c
 | .tup c=>V.jv n c
 | _=>false
def V.jv (n:Name):List V→Bool
 | []=>false
 | v::vs=>v.jC n || V.jv n vs
end
mutual
theorem V.wu (n:Name):∀ v:V,v.jC n=false→n ∉ v.lps
 | .yld m=>by simp [V.jC,V.lps];exact fun h e=>h e.symm
 | .fn f c=>by simp only [V.jC,V.lps];exact V.lW n c
 | .agg c=>by simp only [V.jC,V.lps];exact V.lW n c
 | .tup c=>by simp only [V.jC,V.lps];exact V.lW n c
 | .own .. | .d _ | .nil | .ref _ | .ptr .. | .mref _ | .mpc .. | .vsl .. | .vpt .. | .dead=>by simp [V.lps]
theorem V.lW (n:Name):∀ vs:List V,V.jv n vs=false→n ∉ V.SA vs
 | []=>by simp [V.SA]
 | v::vs=>by
  simp only [V.jv,V.SA,Bool.or_eq_false_iff,List.mem_append,not_or]
  exact fun ⟨a,b⟩=>⟨V.wu n v a,V.lW n vs b⟩
end
def Sa.jC (s:Sa) (n:Name):Bool :=
 s.ts.any (fun x=>x.2.jC n) || s.sv.any (fun f=>f.ts.any (fun x=>x.2.jC n)) || s.bx.any (fun x=>x.2.jC n)
theorem Sa.Jq {n:Name} (h:s.jC n=false):Aa (fun v=>n ∉ v.lps) s:=by
 simp only [Sa.jC,Bool.or_eq_false_iff,List.any_eq_false] at h
 obtain ⟨⟨h1,h2⟩,h3⟩:=h
 refine ⟨fun t=>vZ (fun v=>n ∉ v.lps) (by simp [V.lps]) _ (fun x hx=>V.wu n _ (Bool.eq_false_iff.2 (h1 x hx))) t,fun f hf t=>vZ (fun v=>n ∉ v.lps) (by simp [V.lps]) _ (fun x hx=>?_) t,
  fun k c hk=>V.wu n c (Bool.eq_false_iff.2 (h3 _ (ji hk)))⟩
 have h4:=h2 f hf
 rw [Bool.not_eq_true,List.any_eq_false] at h4
 exact V.wu n _ (Bool.eq_false_iff.2 (h4 x hx))
def Mp.aT (m:Mp) (l:Name) (N:Nat):Mp:={ m with lp:=fun x=>if x=l then N else m.lp x }
theorem aU.LP {w' : World} {M:Cells} {v:V} {c:Value} {l:Name} {N:Nat} (h:aU w M m v c) (hy:l ∉ v.lps) (hbl:Below w.heap.size w w'):aU w' M (m.aT l N) v c :=
 h.mono (eU M hbl) (fun _ _=>rfl) (fun _ _ _ _ hs=>iT hs rfl (fun _ _=>aQ hbl)) (fun k hk=>by
  have:k≠l:=fun e=>hy (e ▸ hk)
  simp [Mp.aT,this])
theorem Rel.LP {w' : World} {l:Name} {N:Nat} (h:Rel Mo m s as w) (hy:Aa (fun v=>l ∉ v.lps) s) (hn:aj l s.lp=none) (hbl:Below w.heap.size w w'):Rel Mo (m.aT l N) s as w':=by
 have hall:∀ x:V,l ∉ x.lps→(∀ n∈x.bxs,m.bx n=m.bx n)∧(∀ i∈x.ows,∀ sz y,bU w m i sz y→bU w' (m.aT l N) i sz y)∧(∀ k∈x.lps,(m.aT l N).lp k=m.lp k):=fun x hx =>
  ⟨fun _ _=>rfl,fun _ _ _ _ hs=>iT hs rfl (fun _ _=>aQ hbl),fun k hk=>by
   have:k≠l:=fun e=>hx (e ▸ hk)
   simp [Mp.aT,this]⟩
 refine h.zI (s':=s) (m':=m.aT l N) rfl rfl rfl rfl rfl (eU _ hbl) ⟨fun t=>hall _ (hy.ts t),fun g hg t=>hall _ (hy.sv g hg t),fun n d hd=>hall _ (hy.bx n d hd)⟩
  hbl.size (fun b o ho _=>aQ hbl ho) (fun k q hk=>?_) ?_ h.inj ?_ h.owx h.owb h.owm (fun k d hk=>⟨(h.vec k d hk).1,(h.vec k d hk).2.mono (eU _ hbl) rfl rfl (fun _ o v _ _ hv=>by rw [hbl.cell (p:=⟨_,o,none⟩) (World.block_lt_of_cell? w _ hv)];exact hv) (fun b c T hc=>⟨c,aQ hbl hc,rfl⟩)⟩)
 ·have:k≠l:=fun e=>by rw [e,hn] at hk;cases hk
  simp [Mp.aT,this]
 ·intro nm d hd
  obtain ⟨cs,T,hb⟩:=h.box nm d hd
  exact ⟨cs,T,hb.heap.mono (fun _ ho _ _=>aQ hbl ho),hb.size,hb.leafs,fun i hi=>(hb.rep i hi).LP (fun hx=>hy.bx nm d hd (NU d i hi l hx)) hbl⟩
 ·intro i hi hne
  obtain ⟨c,T,h1,h2⟩:=h.oww i hi hne
  exact ⟨c,T,aQ hbl h1,h2⟩
theorem Rel.Tz (h:Rel Mo m s as w):∀ d∈marks as,∃ r,d={ target:=.collected r,args:=#[] }∧r<w.heap.size:=by
 intro d hd
 obtain ⟨a,ha,hd⟩:=List.mem_flatMap.1 hd
 obtain ⟨i,hi,rfl⟩:=List.getElem_of_mem ha
 obtain ⟨r,e,hr⟩:=(h.fr i (by rw [List.length_cons,← h.len];exact hi) hi).def_ d hd
 exact ⟨r,e,(Array.getElem?_eq_some_iff.1 hr).1⟩
theorem Rel.WR {a:Act} {r:Nat} (h:Rel Mo m s (a::as) w) (hr:w.heap[r]? = some (.deferred (some []))) (hnew:∀ d∈marks (a::as),d≠{ target:=.collected r,args:=#[] }) :
  Rel Mo m s ({ a with defers:={ target:=.collected r,args:=#[] }::a.defers }::as) w:=by
 refine ⟨by simpa using h.len,?_,h.box,h.inj,h.oww,h.owx,h.owb,?_,by simpa using h.dep,h.lpi,h.mo,?_,h.owm,h.vec⟩
 ·intro i hi hi'
  cases i with
  | zero =>
   have h0:=h.fr 0 (by simp) (by simp)
   refine ⟨h0.size,h0.ts,fun d hd=>?_⟩
   rcases List.mem_cons.1 hd with rfl | hd
   ·exact ⟨r,rfl,hr⟩
   ·exact h0.def_ d hd
  | succ i=>exact h.fr (i+1) hi (by simpa using hi')
 ·intro l q hl
  obtain ⟨rc,b,hx⟩:=h.lps l q hl
  refine ⟨rc,b,⟨hx.heap,hx.ps,hx.assign,hx.body,?_,hx.tmps,hx.stat⟩⟩
  have hown:=hx.own
  have hd:=h.dep l q hl
  simp only [List.length_cons] at hd
  rw [List.reverse_cons,List.getElem?_append_left (by simp;omega)] at hown ⊢
  exact hown
 ·have:=h.mks
  simp only [marks,List.flatMap_cons,List.cons_append,List.nodup_cons] at this ⊢
  exact ⟨fun hm=>hnew _ (by simpa [marks] using hm) rfl,this⟩
theorem Rel.OB {l:Name} {q:Lp} {r:Loop} {a:Act} (h:Rel Mo m s as w) (hn:aj l s.lp=none) (hx:Y4 w m l q as r a) (hd:q.depth+1<as.length) (hf:∀ l' p',aj l' s.lp=some p' → m.lp l' ≠ m.lp l) :
  Rel Mo m { s with lp:=(l,q)::s.lp } as w:=by
 refine ⟨h.len,h.fr,h.box,h.inj,h.oww,h.owx,h.owb,?_,?_,?_,h.mo,h.mks,h.owm,h.vec⟩
 ·intro nm x hl
  simp only [aj] at hl
  split at hl
  ·rename_i e;cases hl;subst e;exact ⟨r,a,hx⟩
  ·exact h.lps nm x hl
 ·intro nm x hl
  simp only [aj] at hl
  split at hl
  ·cases hl;exact hd
  ·exact h.dep nm x hl
 ·intro n1 x1 n2 x2 h1 h2 e
  simp only [aj] at h1 h2
  split at h1
  ·rename_i e1
   split at h2
   ·rename_i e2;rw [← e1,← e2]
   ·subst e1;exact absurd e.symm (hf n2 x2 h2)
  ·split at h2
   ·rename_i e2;subst e2;exact absurd e (hf n1 x1 h1)
   ·exact h.lpi n1 x1 n2 x2 h1 h2 e
theorem Rel.Jr {l:Name} {q:Lp} {tl:List (Name×Lp)} {r r' : Loop} (h:Rel Mo m s as w) (hs:s.lp=(l,q)::tl) (hn:aj l tl=none) (hr:w.heap[m.lp l]? = some (.loop r)) :
  Rel Mo m { s with lp:=tl } as (w.putObj (m.lp l) (.loop r')):=by
 have hne:∀ (b:Nat) (x:Obj),w.heap[b]? = some x→(∀ y,x ≠ .loop y)→(w.putObj (m.lp l) (.loop r')).heap[b]? = some x:=by
  intro b x hx hnx
  have:b≠m.lp l:=fun e=>by subst e;rw [hr] at hx;cases hx;exact hnx _ rfl
  rw [World.putObj_heap_other this];exact hx
 have hstab:lC w (Tot Mo s.bx s.ow m) (w.putObj (m.lp l) (.loop r')) (Tot Mo s.bx s.ow m):=by
  intro b j c hc hm
  refine ⟨?_,hm⟩
  have hb:b≠m.lp l:=fun e=>by subst e;simp [World.cell?,hr] at hc
  rw [World.cell?_of_block (w:=w) (World.putObj_heap_other hb)];exact hc
 have hsp:∀ i sz v,bU w m i sz v→bU (w.putObj (m.lp l) (.loop r')) m i sz v:=by
  intro i sz v hs
  unfold bU at hs ⊢
  split at hs
  ·exact hs
  ·rcases hs with hs | ⟨h1,h2,h3,c,T,h4,h5⟩
   ·exact .inl hs
   ·exact .inr ⟨h1,h2,h3,c,T,hne _ _ h4 (by simp),h5⟩
  ·exact hs.elim
 have hrep:∀ v c,aU w (Tot Mo s.bx s.ow m) m v c→aU (w.putObj (m.lp l) (.loop r')) (Tot Mo s.bx s.ow m) m v c:=fun v c hv=>hv.mono hstab (fun _ _=>rfl) (fun i _ sz v hs=>hsp i sz v hs) (fun _ _=>rfl)
 have hlook:∀ nm x,aj nm tl=some x→nm≠l∧aj nm s.lp=some x:=by
  intro nm x hx
  have:nm≠l:=fun e=>by rw [e,hn] at hx;cases hx
  exact ⟨this,by rw [hs];simp only [aj];rw [if_neg (Ne.symm this)];exact hx⟩
 have hll:aj l s.lp=some q:=by rw [hs];simp [aj]
 refine ⟨h.len,?_,?_,h.inj,?_,h.owx,h.owb,?_,?_,?_,fun b j hm=>by rw [World.putObj_size];exact h.mo b j hm,h.mks,h.owm,fun k d hk=>⟨(h.vec k d hk).1,(h.vec k d hk).2.putObj hr (by simp) hstab⟩⟩
 ·intro i hi hi'
  have h0:=h.fr i hi hi'
  refine ⟨h0.size,fun t=>hrep _ _ (h0.ts t),fun d hd=>?_⟩
  obtain ⟨x,e,hx⟩:=h0.def_ d hd
  exact ⟨x,e,hne _ _ hx (by simp)⟩
 ·intro nm c hn
  obtain ⟨cs,T,hb⟩:=h.box nm c hn
  exact ⟨cs,T,hb.heap.mono (fun o ho _ h2=>hne _ _ ho h2),hb.size,hb.leafs,fun i hi=>hrep _ _ (hb.rep i hi)⟩
 ·intro i hi hn
  obtain ⟨c,T,h1,h2⟩:=h.oww i hi hn
  exact ⟨c,T,hne _ _ h1 (by simp),h2⟩
 ·intro nm x hx
  obtain ⟨h1,h2⟩:=hlook nm x hx
  obtain ⟨rc,b,hy⟩:=h.lps nm x h2
  refine ⟨rc,b,⟨?_,hy.ps,hy.assign,hy.body,hy.own,hy.tmps,hy.stat⟩⟩
  have:m.lp nm≠m.lp l:=fun e=>h1 (h.lpi nm x l q h2 hll e)
  rw [World.putObj_heap_other this];exact hy.heap
 ·intro nm x hx
  exact h.dep nm x (hlook nm x hx).2
 ·intro n1 x1 n2 x2 h1 h2 e
  exact h.lpi n1 x1 n2 x2 (hlook n1 x1 h1).2 (hlook n2 x2 h2).2 e
theorem Rel.TA (h:Rel Mo m s as w) (r:Option Name):Rel Mo m { s with rd:=r } as w:=by
 refine ⟨h.len,?_,h.box,h.inj,h.oww,h.owx,h.owb,h.lps,h.dep,h.lpi,h.mo,h.mks,h.owm,h.vec⟩
 intro i hi hi'
 cases i with
 | zero=>exact ⟨(h.fr 0 (by simp) hi').size,(h.fr 0 (by simp) hi').ts,(h.fr 0 (by simp) hi').def_⟩
 | succ i=>exact h.fr (i+1) hi hi'
def Sa.dU (s:Sa) (l:Name) (nt:Nat) (args:List V) (q:Lp):Sa:={ rd:=none,n:=nt,ts:=xk 0 args,sv:={ rd:=some l,n:=s.n,ts:=s.ts }::s.sv,bx:=s.bx,lp:=(l,q)::s.lp,ow:=s.ow,vc:=s.vc }
def Sa.dQ (s:Sa):Sa:=match s.sv with
 | f::fs=>{ rd:=none,n:=f.n,ts:=f.ts,sv:=fs,bx:=s.bx,lp:=s.lp.tail,ow:=s.ow,vc:=s.vc }
 | []=>s
def Cc (P:Program) (p:Name) (rs:List ResultVar) (l:Name) (s0:Sa) (Q:Ex→Sa→Prop) (e:Ex) (s:Sa):Prop :=
 (match e with | .exit _=>False | _=>True)∧s.sv.length=s0.sv.length+1∧lpD s.lp=(l,s0.sv.length)::lpD s0.lp∧G7 P s rs fun _=>match s.lp with
  | (_,q)::_=>match q.pending with
   | none=>Q .norm s.dQ
   | some none=>False
   | some (some c)=>ev P (pJ P) p c s.dQ Q
  | []=>False
theorem Rel.dU {a:Act} {sv:List Act} {w1:World} {l:Name} {args:List V} {vs:Array Value} {nt:Nat} {ps:Array Tmp} {assign body:Code} {r:Loop} {B:Nat} (h:Rel Mo m s (a::sv) w) (hy:Aa (fun v=>l ∉ v.lps) s) (hn:aj l s.lp=none)
  (hbl:Below w.heap.size w w1) (hB:w1.heap[B]? = some (.deferred (some []))) (hBs:w.heap.size≤B) {N:Nat} (hN:w1.heap[N]? = some (.loop r)) (hNs:w.heap.size≤N)
  (hr:r.params=ps∧r.assign=assign∧r.body=body∧r.tmps=a.tmps∧r.state = .ready∧r.pending=none)
  (ha:jQ w1 (Tot Mo s.bx s.ow m) (m.aT l N) args vs) (hle:args.length≤nt) :
  Rel Mo (m.aT l N) (s.dU l nt args ⟨s.sv.length,ps,assign,body,none⟩)
   ({ tmps:=vs++Array.replicate (nt - vs.size) undef,defers:=[] }::{ a with defers:={ target:=.collected B,args:=#[] }::a.defers }::sv) w1:=by
 have h1:=(h.LP (N:=N) hy hn hbl).WR hB (fun d hd=>by
  obtain ⟨r,e,hr⟩:=h.Tz d hd
  intro e2
  rw [e] at e2
  have:r=B:=by cases e2;rfl
  omega)
 have h2:=(h1.TA (some l)).push (args:=args) (vs:=vs) nt ha hle
 refine h2.OB (l:=l) (q:=⟨s.sv.length,ps,assign,body,none⟩) (r:=r) (a:={ a with defers:={ target:=.collected B,args:=#[] }::a.defers }) hn ?_ ?_ ?_
 ·refine ⟨by simpa [Mp.aT] using hN,hr.1,hr.2.1,hr.2.2.1,?_,hr.2.2.2.1,hr.2.2.2.2⟩
  have hl:=h.len
  simp only [List.length_cons,Nat.add_right_cancel_iff] at hl
  have e:∀ (x y:Act),(x::y::sv).reverse[s.sv.length]? = some y:=fun x y=>by
   rw [← hl]
   simp
  exact e _ _
 ·have hl:=h.len
  simp only [List.length_cons] at hl ⊢
  omega
 ·intro l' p' hl
  have:l' ≠ l:=fun e=>by rw [e] at hl;exact absurd hl (by simp [Sa.push,hn])
  obtain ⟨rc,b,hx⟩:=h.lps l' p' hl
  have:=(Array.getElem?_eq_some_iff.1 hx.heap).1
  simp only [Mp.aT,if_true]
  rw [if_neg (by assumption)]
  omega
theorem wz:∀ {l l' : List (Name×Lp)},lpD l=lpD l' → ∀ {nm:Name},aj nm l=none→aj nm l' = none:=by
 intro l l' e nm h
 cases h' : aj nm l' with
 | none=>rfl
 | some q =>
  obtain ⟨q',h1,_⟩:=su e.symm h'
  rw [h] at h1;cases h1
end Go.Ab
namespace Go.Ab
open Go Go.RowKit
variable {P:Program} {a:Act} {w:World} {n:Nat} {Mo:Cells} {m:Mp} {s:Sa} {p:Name} {k:Sa→Prop} {Q:Exit→Act→World→Prop} {sv:List Act} {ops:Array Oper}
structure Eqv (s s' : Sa):Prop where
 rd:s.rd=s'.rd
 n:s.n=s'.n
 sv:s.sv=s'.sv
 bx:∀ nm,aj nm s.bx=aj nm s'.bx
 lp:s.lp=s'.lp
 ow:s.ow=s'.ow
 ts:∀ t,lkT t s.ts=lkT t s'.ts
 vc:∀ nm,aj nm s.vc=aj nm s'.vc
theorem Eqv.refl (s:Sa):Eqv s s:=⟨rfl,rfl,rfl,fun _=>rfl,rfl,rfl,fun _=>rfl,fun _=>rfl⟩
theorem Eqv.trans {s s' s'' : Sa} (h:Eqv s s') (h' : Eqv s' s''):Eqv s s'':=⟨h.rd.trans h'.rd,h.n.trans h'.n,h.sv.trans h'.sv,fun nm=>(h.bx nm).trans (h'.bx nm),h.lp.trans h'.lp,h.ow.trans h'.ow,fun t=>(h.ts t).trans (h'.ts t),fun nm=>(h.vc nm).trans (h'.vc nm)⟩
theorem Eqv.symm {s s' : Sa} (h:Eqv s s'):Eqv s' s:=⟨h.rd.symm,h.n.symm,h.sv.symm,fun nm=>(h.bx nm).symm,h.lp.symm,h.ow.symm,fun t=>(h.ts t).symm,fun nm=>(h.vc nm).symm⟩
theorem Eqv.wk {s s' : Sa} (h:Eqv s s'):Wk s s':=Wk.of h.rd.symm h.n.symm h.lp.symm (fun t=>.inl (h.ts t).symm) h.sv.symm (fun nm c hc=>by rw [h.bx];exact hc) (fun i hi=>by rw [h.ow];exact hi) (fun n c hn=>⟨by rw [h.vc];exact hn,fun hi=>by rw [← h.ow];exact hi⟩)
theorem Eqv.put {s s' : Sa} (h:Eqv s s') (d:Option Tmp) (v:V):Eqv (s.put d v) (s'.put d v):=by
 cases d with
 | none=>exact h
 | some d=>exact ⟨h.rd,h.n,h.sv,h.bx,h.lp,h.ow,fun t=>by simp only [Sa.put,gB,h.ts t],h.vc⟩
theorem Like.eqv {s s' : Sa} (h:Like s s'):Eqv s s':=⟨h.rd,h.n,h.sv,fun nm=>by rw [h.bx],h.lp,h.ow,h.ts,fun nm=>by rw [h.vc]⟩
structure Eff where
 i:Nat
 v:V
 w:List (Name×V)
 wv:List (Name×Nat×List D):=[]
section
variable {α:Type}
def addN (n:Name) (c:α) (l:List (Name×α)):List (Name×α):=(n,c)::l
def iO (ws:List (Name×α)) (l:List (Name×α)):List (Name×α):=ws.foldl (fun l x=>addN x.1 x.2 l) l
def nM (nm:Name):List (Name×α)→Option α
 | []=>none
 | x::l=>match nM nm l with
  | some c=>some c
  | none=>if x.1=nm then some x.2 else none
theorem gU {nm:Name}:∀ {ws l:List (Name×α)},aj nm (iO ws l)=(match nM nm ws with | some c=>some c | none=>aj nm l)
 | [],l=>rfl
 | x::ws,l=>by
  have e:iO (x::ws) l=iO ws (addN x.1 x.2 l):=rfl
  rw [e,gU,nM]
  cases h:nM nm ws with
  | some c=>rfl
  | none =>
   simp only [addN,aj]
   split <;> rfl
def iJ (f:Eff→List (Name×α)) (nm:Name):List Eff→Option α
 | []=>none
 | e::l=>match iJ f nm l with
  | some c=>some c
  | none=>nM nm (f e)
end
def nN (ops:Array Oper) (s:Sa) (e:Eff):Sa:=({ s with bx:=iO e.w s.bx,vc:=iO e.wv s.vc }:Sa).put (aS ops e.i) e.v
def bT (ops:Array Oper) (s:Sa) (l:List Eff):Sa:=l.foldl (nN ops) s
theorem Ce (l l' : List Eff):bT ops s (l++l')=bT ops (bT ops s l) l':=by simp [bT]
theorem mP (e:Eff):(nN ops s e).rd=s.rd∧(nN ops s e).n=s.n∧(nN ops s e).sv=s.sv∧(nN ops s e).lp=s.lp∧(nN ops s e).ow=s.ow∧(nN ops s e).bx=iO e.w s.bx∧(nN ops s e).vc=iO e.wv s.vc:=by
 unfold nN
 cases aS ops e.i <;> exact ⟨rfl,rfl,rfl,rfl,rfl,rfl,rfl⟩
theorem mQ (l:List Eff):(bT ops s l).rd=s.rd∧(bT ops s l).n=s.n∧(bT ops s l).sv=s.sv∧(bT ops s l).lp=s.lp∧(bT ops s l).ow=s.ow:=by
 induction l generalizing s with
 | nil=>exact ⟨rfl,rfl,rfl,rfl,rfl⟩
 | cons e l ih =>
  obtain ⟨h1,h2,h3,h4,h5⟩:=ih (s:=nN ops s e)
  obtain ⟨g1,g2,g3,g4,g5,_⟩:=mP (ops:=ops) (s:=s) e
  exact ⟨h1.trans g1,h2.trans g2,h3.trans g3,h4.trans g4,h5.trans g5⟩
theorem eu {nm:Name}:∀ {l:List Eff} {s:Sa},aj nm (bT ops s l).bx=(match iJ Eff.w nm l with | some c=>some c | none=>aj nm s.bx)∧aj nm (bT ops s l).vc=(match iJ Eff.wv nm l with | some c=>some c | none=>aj nm s.vc)
 | [],s=>⟨rfl,rfl⟩
 | e::l,s=>by
  have h:bT ops s (e::l)=bT ops (nN ops s e) l:=rfl
  obtain ⟨h1,h2⟩:=eu (nm:=nm) (l:=l) (s:=nN ops s e)
  rw [h,h1,h2]
  simp only [iJ]
  constructor
  ·cases iJ Eff.w nm l with
   | some c=>rfl
   | none=>simp only [(mP (ops:=ops) (s:=s) e).2.2.2.2.2.1,gU];cases nM nm e.w <;> rfl
  ·cases iJ Eff.wv nm l with
   | some c=>rfl
   | none=>simp only [(mP (ops:=ops) (s:=s) e).2.2.2.2.2.2,gU];cases nM nm e.wv <;> rfl
def writes (nm:Name) (e:Eff):Bool:=(nM nm e.w).isSome || (nM nm e.wv).isSome
theorem xB {nm:Name} {e:Eff} (h:writes nm e=false):nM nm e.w=none∧nM nm e.wv=none:=by
 simp only [writes,Bool.or_eq_false_iff,Option.isSome_eq_false_iff,Option.isNone_iff_eq_none] at h;exact h
theorem jE {α:Type} {f:Eff→List (Name×α)} {nm:Name} (hf:∀ e,writes nm e=false→nM nm (f e)=none):∀ {l:List Eff},iJ f nm l=iJ f nm (l.filter (writes nm))
 | []=>rfl
 | e::l=>by
  rw [List.filter_cons]
  split
  ·simp only [iJ,jE hf (l:=l)]
  ·rename_i h
   have h:nM nm (f e)=none:=hf e (by simpa using h)
   rw [iJ,h,← jE hf (l:=l)]
   cases iJ f nm l <;> rfl
theorem oq {nm:Name} {l:List Eff}:iJ Eff.w nm l=iJ Eff.w nm (l.filter (writes nm)):=jE fun e h=>(xB h).1
theorem ou {nm:Name} {l:List Eff}:iJ Eff.wv nm l=iJ Eff.wv nm (l.filter (writes nm)):=jE fun e h=>(xB h).2
def lastT (ops:Array Oper) (t:Nat):List Eff→Option V
 | []=>none
 | e::l=>match lastT ops t l with
  | some c=>some c
  | none=>if aS ops e.i=some t then some e.v else none
theorem OC {t:Nat} {e:Eff}:lkT t (nN ops s e).ts=if aS ops e.i=some t then e.v else lkT t s.ts:=by
 unfold nN
 cases h:aS ops e.i with
 | none=>simp [Sa.put]
 | some d=>simp only [Sa.put,gB,Option.some.injEq]
theorem oz {t:Nat}:∀ {l:List Eff} {s:Sa},lkT t (bT ops s l).ts=(match lastT ops t l with | some c=>c | none=>lkT t s.ts)
 | [],s=>rfl
 | e::l,s=>by
  have h:bT ops s (e::l)=bT ops (nN ops s e) l:=rfl
  rw [h,oz,lastT]
  cases lastT ops t l with
  | some c=>rfl
  | none =>
   simp only [OC]
   split <;> rfl
def OD (ops:Array Oper) (t:Nat) (e:Eff):Bool:=decide (aS ops e.i=some t)
theorem jm {t:Nat}:∀ {l:List Eff},lastT ops t l=lastT ops t (l.filter (OD ops t))
 | []=>rfl
 | e::l=>by
  rw [List.filter_cons]
  split
  ·simp only [lastT,jm (l:=l)]
  ·rename_i h
   have h : ¬ aS ops e.i=some t:=by simpa [OD] using h
   rw [lastT,if_neg h,← jm (l:=l)]
   cases lastT ops t l <;> rfl
theorem Ho {α:Type} {l:List α} {q r u:α→Bool} (h:∀ x∈l,u x=true→q x=r x):(l.filter q).filter u=(l.filter r).filter u:=by
 rw [List.filter_filter,List.filter_filter]
 refine List.filter_congr fun x hx=>?_
 cases hu:u x with
 | false=>simp
 | true=>simp [h x hx hu]
theorem OE {nm:Name} {d:Option Tmp} {v:V} (h:s.refs nm=false) (hv:v.refs nm=false):(s.put d v).refs nm=false:=by
 cases d with
 | none=>exact h
 | some d =>
  simp only [Sa.refs,Bool.or_eq_false_iff] at h ⊢
  refine ⟨⟨?_,h.1.2⟩,h.2⟩
  have h1:=h.1.1
  simp only [Sa.put]
  generalize s.ts=l at h1
  induction l with
  | nil=>simp [GI,hv]
  | cons x l ih =>
   obtain ⟨a,b⟩:=x
   simp only [List.any_cons,Bool.or_eq_false_iff] at h1
   simp only [GI]
   split
   ·simp only [List.any_cons,Bool.or_eq_false_iff];exact ⟨hv,h1.2⟩
   ·simp only [List.any_cons,Bool.or_eq_false_iff];exact ⟨h1.1,ih h1.2⟩
theorem OG {nm:Name} {e:Eff} (h:s.refs nm=false) (hv:e.v.refs nm=false) (hw:∀ x∈e.w,x.2.refs nm=false):(nN ops s e).refs nm=false:=by
 refine OE ?_ hv
 simp only [Sa.refs,Bool.or_eq_false_iff] at h ⊢
 refine ⟨h.1,?_⟩
 have h2:=h.2
 generalize s.bx=l at h2
 have:∀ (ws l:List (Name×V)),(∀ x∈ws,x.2.refs nm=false)→(l.any fun x=>x.2.refs nm)=false→((iO ws l).any fun x=>x.2.refs nm)=false:=by
  intro ws
  induction ws with
  | nil=>intro l _ h;exact h
  | cons x ws ih =>
   intro l hw h
   exact ih _ (fun y hy=>hw y (List.mem_cons_of_mem _ hy)) (by simp only [addN,List.any_cons,Bool.or_eq_false_iff];exact ⟨hw x List.mem_cons_self,h⟩)
 exact this e.w l hw h2
theorem xC {nm:Name}:∀ {l:List Eff} {s:Sa},s.refs nm=false→(∀ e∈l,e.v.refs nm=false∧∀ x∈e.w,x.2.refs nm=false)→(bT ops s l).refs nm=false
 | [],s,h,_=>h
 | e::l,s,h,hl=>xC (s:=nN ops s e) (OG h (hl e List.mem_cons_self).1 (hl e List.mem_cons_self).2) fun x hx=>hl x (List.mem_cons_of_mem _ hx)
def Fact (P:Program) (p:Name) (ops:Array Oper) (s:Sa) (H:Nat→Name→Bool) (fr:Nat→List Name) (L1:List Eff) (e:Eff):Prop :=
 ∃ o,ops[e.i]? = some o∧∀ s' : Sa,s'.rd=s.rd→s'.n=s.n→s'.sv=s.sv→s'.lp=s.lp→s'.ow=s.ow→(∀ nm,H e.i nm=false→aj nm s'.vc=aj nm (bT ops s L1).vc)→(∀ t∈jR ops o,lkT t s'.ts=lkT t (bT ops s L1).ts) →
  (∀ nm,H e.i nm=false→aj nm s'.bx=aj nm (bT ops s L1).bx)→(∀ nm∈fr e.i,s'.refs nm=false) →
  ∀ k' : Sa→Prop,(∀ s1,Eqv s1 (nN ops s' e)→k' s1)→bP P (pJ P) p ops [o] s' k'
structure Mix (P:Program) (p:Name) (ops:Array Oper) (s:Sa) (L:List Eff) (pre:Nat→List Nat) (H:Nat→Name→Bool) (fr:Nat→List Name):Prop where
 nodup:(L.map (·.i)).Nodup
 cov:∀ j,j<ops.size→∃ e∈L,e.i=j
 preOK:∀ e∈L,∀ j∈pre e.i,j∈lD ops e.i∨∃ q∈lD ops e.i,j∈pre q
 ord:∀ L1 e L2,L=L1++e::L2→(∀ j∈pre e.i,∃ x∈L1,x.i=j)∧∀ j∈lD ops e.i,∃ x∈L1,x.i=j
 dst:∀ e∈L,∀ x∈L,e.i≠x.i→x.i ∉ pre e.i→e.i ∉ pre x.i→∀ t,aS ops e.i=some t→aS ops x.i≠some t
 rdw:∀ e∈L,∀ x∈L,e.i≠x.i→x.i ∉ pre e.i→e.i ∉ pre x.i→∀ t,aS ops x.i=some t→t ∉ readsOf ops e.i
 hid:∀ e∈L,∀ x∈L,e.i≠x.i→x.i ∉ pre e.i→e.i ∉ pre x.i→∀ nm,writes nm x=true→H e.i nm=true
 wr:∀ e∈L,∀ x∈L,e.i≠x.i→x.i ∉ pre e.i→e.i ∉ pre x.i→∀ nm,writes nm e=true→writes nm x=false
 frs:∀ e∈L,∀ nm∈fr e.i,s.refs nm=false∧∀ x∈L,e.i≠x.i→e.i ∉ pre x.i→x.v.refs nm=false∧∀ y∈x.w,y.2.refs nm=false
 fact:∀ L1 e L2,L=L1++e::L2→Fact P p ops s H fr L1 e
theorem sG {α:Type} {f:Eff→List (Name×α)} {nm:Name} {A B:List Eff}:iJ f nm (A++B)=(match iJ f nm B with | some c=>some c | none=>iJ f nm A):=by
 induction A with
 | nil=>simp only [List.nil_append,iJ];cases iJ f nm B <;> rfl
 | cons e A ih=>simp only [List.cons_append,iJ,ih];cases iJ f nm B <;> rfl
theorem ER {t:Nat} {A B:List Eff}:lastT ops t (A++B)=(match lastT ops t B with | some c=>some c | none=>lastT ops t A):=by
 induction A with
 | nil=>simp only [List.nil_append,lastT];cases lastT ops t B <;> rfl
 | cons e A ih=>simp only [List.cons_append,lastT,ih];cases lastT ops t B <;> rfl
theorem Ap {nm:Name} {B:List Eff} (h:∀ x∈B,writes nm x=false):iJ Eff.w nm B=none∧iJ Eff.wv nm B=none:=by
 rw [oq,ou,List.filter_eq_nil_iff.2 (fun x hx=>by rw [h x hx];simp)];exact ⟨rfl,rfl⟩
theorem LU {t:Nat} {B:List Eff} (h:∀ x∈B,aS ops x.i≠some t):lastT ops t B=none:=by
 rw [jm,List.filter_eq_nil_iff.2 (fun x hx=>by simp [OD,h x hx])];rfl
theorem Ci {L1 L2:List Eff} {e:Eff} (hn:((L1++e::L2).map (·.i)).Nodup):(L1++e::L2).filter (fun x=>decide (x.i∈L1.map (·.i)))=L1:=by
 rw [List.map_append,List.nodup_append] at hn
 rw [List.filter_append,List.filter_eq_self.2 (fun x hx=>by simpa using ⟨x,hx,rfl⟩),List.filter_eq_nil_iff.2 (fun x hx=>?_),List.append_nil]
 simp only [decide_eq_true_eq]
 intro hc
 exact hn.2.2 _ hc _ (List.mem_map_of_mem hx) rfl
end Go.Ab
namespace Go.Ab
open Go Go.RowKit
variable {P:Program} {a:Act} {w:World} {n:Nat} {Mo:Cells} {m:Mp} {s:Sa} {p:Name} {k:Sa→Prop} {Q:Exit→Act→World→Prop} {sv:List Act} {ops:Array Oper}
theorem OH {ds:List Deferred} {L:List Eff} {pre:Nat→List Nat} {H:Nat→Name→Bool} {fr:Nat→List Name} (hM:Mix P p ops s L pre H fr) (hN:uq Mo m s ds sv w (fun s'=>Eqv s' (bT ops s L)) Q) :
  ∀ (N:Nat) (D:Nat→Bool) (listed:Array Bool) (m' : Mp) (a' : Act) (w' : World),(L.filter fun e=>!D e.i).length=N→(∀ e∈L,D e.i=true→∀ j∈pre e.i,D j=true) →
   Rel Mo m' (bT ops s (L.filter fun e=>D e.i)) (a' :: sv) w' → Step m s w m' (bT ops s (L.filter fun e=>D e.i)) w' → bf m' (bT ops s (L.filter fun e=>D e.i))=bf m s→a'.defers=ds→Listed ops listed (fun j=>D j=true) →
   wpAnyIn (Wd (bf m s)) n P .any ops Q N listed a' w':=by
 intro N
 induction N with
 | zero =>
  intro D listed m' a' w' hlen hclo hR hst hrd hds hlisted
  have hall:∀ e∈L,D e.i=true:=fun e he=>by
   have:=List.eq_nil_of_length_eq_zero hlen
   have:=List.filter_eq_nil_iff.1 this e he
   simpa using this
  have e1:(L.filter fun e=>D e.i)=L:=List.filter_eq_self.2 hall
  rw [e1] at hR hst hrd
  refine ⟨?_,hN m' _ a' w' (Eqv.refl _) hR hst hrd hds⟩
  refine List.eq_nil_iff_forall_not_mem.2 fun i hi=>?_
  obtain ⟨h1,h2,_⟩:=lU hlisted hi
  obtain ⟨e,he,rfl⟩:=hM.cov i h1
  exact h2 (hall e he)
 | succ N ih =>
  intro D listed m' a' w' hlen hclo hR hst hrd hds hlisted
  refine ⟨fun hr=>?_,fun i hi=>?_⟩
  ·
   have hex:∃ e∈L,D e.i=false:=by
    refine Classical.byContradiction fun hn=>?_
    have:(L.filter fun e=>!D e.i)=[]:=List.filter_eq_nil_iff.2 fun e he=>by
     cases hd:D e.i
     ·exact absurd ⟨e,he,hd⟩ hn
     ·simp [hd]
    rw [this] at hlen;cases hlen
   obtain ⟨L1,e,L2,e1,e2,e3⟩:=Cb L (fun e=>D e.i=false) hex
   obtain ⟨o,ho,_⟩:=hM.fact L1 e L2 e1
   have:e.i∈Region.ready .any ops listed:=jS hlisted ho (by rw [e2];simp) (fun j hj=>by
    obtain ⟨x,hx,rfl⟩:=(hM.ord L1 e L2 e1).2 j (by simp only [lD,ho];exact hj)
    refine ⟨?_,?_⟩
    ·obtain ⟨A,B,hAB⟩:=List.append_of_mem hx
     obtain ⟨o',ho',_⟩:=hM.fact A x (B++e::L2) (by rw [e1,hAB];simp)
     exact (Array.getElem?_eq_some_iff.1 ho').1
    ·have:=e3 x hx
     simpa using this)
   rw [hr] at this;cases this
  ·obtain ⟨hlt,hnD,o,ho,haft⟩:=lU hlisted hi
   obtain ⟨e,he,rfl⟩:=hM.cov i hlt
   have hDe:D e.i=false:=by simpa using hnD
   obtain ⟨L1,L2,hL⟩:=List.append_of_mem he
   have hnd:((L1++e::L2).map (·.i)).Nodup:=by rw [← hL];exact hM.nodup
   have hnd':=hnd
   rw [List.map_append,List.nodup_append,List.map_cons,List.nodup_cons] at hnd'
   obtain ⟨n1,⟨n2,n3⟩,n4⟩:=hnd'
   have hpreD:∀ j∈pre e.i,D j=true:=by
    have aD:∀ q∈lD ops e.i,D q=true:=fun q hq=>by
     have hq' : q∈aft o:=by simpa only [lD,ho] using hq
     have h1:=haft q hq'
     have hqs:q<ops.size:=by
      have:q<listed.size:=by
       rcases Nat.lt_or_ge q listed.size with h' | h'
       ·exact h'
       ·simp [Array.getElem?_eq_none h'] at h1
      rw [← hlisted.1];exact this
     exact (hlisted.false' hqs).1 h1
    intro j hj
    rcases hM.preOK e he j hj with h | ⟨q,hq,hjq⟩
    ·exact aD j h
    ·obtain ⟨x,hx,rfl⟩:=(hM.ord L1 e L2 hL).2 q hq
     exact hclo x (by rw [hL];simp [hx]) (aD _ hq) j hjq
   have in1:∀ x∈L,x.i≠e.i→(x.i∈L1.map (·.i)↔x∈L1):=fun x hx hne=>by
    refine ⟨fun h=>?_,fun h=>List.mem_map_of_mem h⟩
    obtain ⟨y,hy,hyx⟩:=List.mem_map.1 h
    have:x=y:=by
     have hin:∀ {l:List Eff},(l.map (·.i)).Nodup→∀ u∈l,∀ v∈l,u.i=v.i→u=v:=by
      intro l hl u hu v hv huv
      obtain ⟨a,ha,rfl⟩:=List.getElem_of_mem hu
      obtain ⟨b,hb,rfl⟩:=List.getElem_of_mem hv
      have:=(List.getElem_inj (xs:=l.map (·.i)) (h₀:=by simpa using ha) (h₁:=by simpa using hb) hl).1 (by simpa using huv)
      subst this;rfl
     exact hin hM.nodup x hx y (by rw [hL];simp [hy]) hyx.symm
    rw [this];exact hy
   have behind:∀ x∈L,e.i∈pre x.i→D x.i=false∧x ∉ L1:=fun x hx h=>by
    refine ⟨?_,fun hx1=>?_⟩
    ·cases hd:D x.i with
     | false=>rfl
     | true=>have:=hclo x hx hd _ h;rw [hDe] at this;cases this
    ·obtain ⟨A,B,hAB⟩:=List.append_of_mem hx1
     obtain ⟨y,hy,hye⟩:=(hM.ord A x (B++e::L2) (by rw [hL,hAB];simp)).1 _ h
     exact n4 _ (List.mem_map_of_mem (by rw [hAB];simp [hy])) _ List.mem_cons_self hye
   have ahead:∀ x∈L,x.i∈pre e.i→D x.i=true∧x.i∈L1.map (·.i):=fun x hx h =>
    ⟨hpreD _ h,by obtain ⟨y,hy,hyx⟩:=(hM.ord L1 e L2 hL).1 _ h;exact List.mem_map.2 ⟨y,hy,hyx⟩⟩
   have agree:∀ (u:Eff→Bool),(∀ x∈L,u x=true→e.i≠x.i→x.i ∉ pre e.i→e.i ∉ pre x.i→False)→(L.filter fun x=>D x.i).filter u=L1.filter u:=by
    intro u hu
    have h0:=Ci hnd
    rw [← hL] at h0
    rw [← h0]
    refine (Ho fun x hx hux=>?_).trans (by rw [h0])
    by_cases hxe:e.i=x.i
    ·rw [← hxe,hDe]
     symm
     simp only [decide_eq_false_iff_not]
     intro hc
     exact n4 _ hc _ List.mem_cons_self rfl
    ·by_cases h1:x.i∈pre e.i
     ·obtain ⟨g1,g2⟩:=ahead x hx h1
      rw [g1];exact (decide_eq_true g2).symm
     ·by_cases h2:e.i∈pre x.i
      ·obtain ⟨g1,g2⟩:=behind x hx h2
       rw [g1];symm
       simp only [decide_eq_false_iff_not]
       rw [in1 x hx (fun e0=>hxe e0.symm)]
       exact g2
      ·exact (hu x hx hux hxe h1 h2).elim
   obtain ⟨o',ho',hfact⟩:=hM.fact L1 e L2 hL
   rw [ho] at ho'; cases ho'
   obtain ⟨f1,f2,f3,f4,f5⟩:=mQ (ops:=ops) (s:=s) (L.filter fun x=>D x.i)
   let D' : Nat→Bool:=fun j=>D j || Nat.beq j e.i
   have hD' : ∀ x∈L,x.i≠e.i→D' x.i=D x.i:=fun x hx hne=>by
    have:Nat.beq x.i e.i=false:=by
     cases hb:Nat.beq x.i e.i
     ·rfl
     ·exact absurd (Nat.eq_of_beq_eq_true hb) hne
    simp only [D',this,Bool.or_false]
   have hDe' : D' e.i=true:=by simp [D',Nat.beq_refl]
   have out1:∀ x∈L1,x.i≠e.i:=fun x hx hc=>n4 _ (List.mem_map_of_mem hx) _ List.mem_cons_self hc
   have out2:∀ x∈L2,x.i≠e.i:=fun x hx hc=>n2 (by rw [← hc];exact List.mem_map_of_mem hx)
   have s1:(L.filter fun x=>D x.i)=(L1.filter fun x=>D x.i)++(L2.filter fun x=>D x.i):=by
    rw [hL,List.filter_append,List.filter_cons,if_neg (by rw [hDe];simp)]
   have s2:(L.filter fun x=>D' x.i)=(L1.filter fun x=>D x.i)++e::(L2.filter fun x=>D x.i):=by
    rw [hL,List.filter_append,List.filter_cons,if_pos hDe']
    congr 1
    ·exact List.filter_congr fun x hx=>hD' x (by rw [hL];simp [hx]) (out1 x hx)
    ·congr 1
     exact List.filter_congr fun x hx=>hD' x (by rw [hL];simp [hx]) (out2 x hx)
   have late:∀ x∈(L2.filter fun x=>D x.i),x∈L∧e.i≠x.i∧x.i ∉ pre e.i∧e.i ∉ pre x.i:=fun x hx=>by
    obtain ⟨h1,h2⟩:=List.mem_filter.1 hx
    have hxL:x∈L:=by rw [hL];simp [h1]
    have hne:e.i≠x.i:=fun h=>out2 x h1 h.symm
    refine ⟨hxL,hne,fun h=>?_,fun h=>?_⟩
    ·have:=(ahead x hxL h).2
     exact n4 _ this _ (List.mem_cons_of_mem _ (List.mem_map_of_mem h1)) rfl
    ·rw [(behind x hxL h).1] at h2;cases h2
   have hE:Eqv (nN ops (bT ops s (L.filter fun x=>D x.i)) e) (bT ops s (L.filter fun x=>D' x.i)):=by
    obtain ⟨g1,g2,g3,g4,g5,g6,g7⟩:=mP (ops:=ops) (s:=bT ops s (L.filter fun x=>D x.i)) e
    obtain ⟨q1,q2,q3,q4,q5⟩:=mQ (ops:=ops) (s:=s) (L.filter fun x=>D' x.i)
    refine ⟨g1.trans (f1.trans q1.symm),g2.trans (f2.trans q2.symm),g3.trans (f3.trans q3.symm),fun nm=>?_,g4.trans (f4.trans q4.symm),g5.trans (f5.trans q5.symm),fun t=>?_,fun nm=>?_⟩
    ·rw [g6,gU,eu.1,eu.1,s1,s2,sG,sG,iJ]
     cases hw:nM nm e.w with
     | some c =>
      have:=Ap (nm:=nm) (B:=L2.filter fun x=>D x.i) fun x hx=>by
       obtain ⟨h1,h2,h3,h4⟩:=late x hx
       exact hM.wr e he x h1 h2 h3 h4 nm (by simp [writes,hw])
      rw [this.1]
     | none=>cases iJ Eff.w nm (L2.filter fun x=>D x.i) <;> rfl
    ·rw [OC,oz,oz,s1,s2,ER,ER,lastT]
     split
     ·rename_i hd
      have:=LU (ops:=ops) (t:=t) (B:=L2.filter fun x=>D x.i) fun x hx=>by
       obtain ⟨h1,h2,h3,h4⟩:=late x hx
       exact hM.dst e he x h1 h2 h3 h4 t hd
      rw [this]
     ·cases lastT ops t (L2.filter fun x=>D x.i) <;> rfl
    ·rw [g7,gU,eu.2,eu.2,s1,s2,sG,sG,iJ]
     cases hw:nM nm e.wv with
     | some c =>
      have:=Ap (nm:=nm) (B:=L2.filter fun x=>D x.i) fun x hx=>by
       obtain ⟨h1,h2,h3,h4⟩:=late x hx
       exact hM.wr e he x h1 h2 h3 h4 nm (by simp [writes,hw])
      rw [this.2]
     | none=>cases iJ Eff.wv nm (L2.filter fun x=>D x.i) <;> rfl
   have hev:bP P (pJ P) p ops [o] (bT ops s (L.filter fun x=>D x.i)) (fun s1=>Eqv s1 (bT ops s (L.filter fun x=>D' x.i))):=by
    refine hfact _ f1 f2 f3 f4 f5 (fun nm hnm=>?_) (fun t ht=>?_) (fun nm hnm=>?_) (fun nm hnm=>?_) _ fun s1 h=>h.trans hE
    ·rw [eu.2,eu.2,ou,agree (writes nm) (fun x hx hux h1 h2 h3=>?_),← ou]
     have:=hM.hid e he x hx h1 h2 h3 nm hux
     rw [hnm] at this;cases this
    ·rw [oz,oz,jm,agree (OD ops t) (fun x hx hux h1 h2 h3=>?_),← jm]
     exact hM.rdw e he x hx h1 h2 h3 t (by simpa [OD] using hux) (by simpa only [readsOf,ho] using ht)
    ·rw [eu.1,eu.1,oq,agree (writes nm) (fun x hx hux h1 h2 h3=>?_),← oq]
     have:=hM.hid e he x hx h1 h2 h3 nm hux
     rw [hnm] at this;cases this
    ·obtain ⟨h1,h2⟩:=hM.frs e he nm hnm
     refine xC h1 fun x hx=>?_
     obtain ⟨hx1,hx2⟩:=List.mem_filter.1 hx
     refine h2 x hx1 (fun h=>?_) fun h=>?_
     ·rw [← h,hDe] at hx2;cases hx2
     ·rw [(behind x hx1 h).1] at hx2;cases hx2
   rw [← hrd]
   refine sF ho hR ?_ hev
   intro m4 s4 a4 w4 hk4 hR4 hst4 hrd4 hds4
   obtain ⟨m5,hR5,hst5,hrd5⟩:=hk4.wk Mo m4 _ w4 hR4
   rw [hrd]
   refine ih D' _ m5 a4 w4 ?_ ?_ hR5 ((hst.trans hst4).trans hst5) (hrd5.trans (hrd4.trans hrd)) (hds4.trans hds) ((hlisted.set e.i).congr fun j=>?_)
   ·have h1:(L.filter fun x=>!D x.i).length=(L1.filter fun x=>!D x.i).length+((L2.filter fun x=>!D x.i).length+1):=by
     rw [hL,List.filter_append,List.filter_cons,if_pos (by rw [hDe];rfl),List.length_append,List.length_cons]
    have h2:(L.filter fun x=>!D' x.i).length=(L1.filter fun x=>!D x.i).length+(L2.filter fun x=>!D x.i).length:=by
     rw [hL,List.filter_append,List.filter_cons,if_neg (by rw [hDe'];simp),List.length_append]
     congr 2
     ·exact List.filter_congr fun x hx=>by rw [hD' x (by rw [hL];simp [hx]) (out1 x hx)]
     ·exact List.filter_congr fun x hx=>by rw [hD' x (by rw [hL];simp [hx]) (out2 x hx)]
    omega
   ·intro x hx hdx j hj
    by_cases hxe:x.i=e.i
    ·rw [hxe] at hj
     show (D j || Nat.beq j e.i)=true
     rw [hpreD j hj];rfl
    ·rw [hD' x hx hxe] at hdx
     show (D j || Nat.beq j e.i)=true
     rw [hclo x hx hdx j hj];rfl
   ·show (D j=true∨j=e.i)↔(D j || Nat.beq j e.i)=true
    rw [Bool.or_eq_true,Nat.beq_eq]
end Go.Ab
namespace Go.Ab
open Go Go.RowKit
variable {P:Program} {a:Act} {w:World} {n:Nat} {Mo:Cells} {m:Mp} {s:Sa} {p:Name} {Q:Exit→Act→World→Prop} {sv:List Act} {ops:Array Oper}
def qA (P:Program) (p:Name) (ops:Array Oper) (H:Nat→List Name):List Nat→List Eff→Sa→(List Eff→Sa→Prop)→Prop
 | [],L,s,k=>k L s
 | i::rest,L,s,k=>match ops[i]? with
  | some o=>match o.op with
   | .alloc ty=>match o.dst,o.guard with
    | some t,none=>t<s.n∧(H i).contains (t::p)=false∧(bV P ty).notNil=true∧(bV P ty).cells.length=tsz P ty∧isCells (bV P ty)=true∧aj (t::p) s.bx=none ∧
      qA P p ops H rest (L++[⟨i,.ptr (t::p) 0,[(t::p,bV P ty)],[]⟩]) (nN ops s ⟨i,.ptr (t::p) 0,[(t::p,bV P ty)],[]⟩) k
    | _,_=>False
   | .store ty x y=>match o.dst,o.guard,s.get x with
    | none,none,.ptr nm off=>match aj nm s.bx with
     | some c=>(H i).contains nm=false∧(s.get y).notNil=true∧isCells (s.get y)=true∧tsz P ty≠0∧(s.get y).cells.length=tsz P ty∧off+tsz P ty≤c.cells.length ∧
       qA P p ops H rest (L++[⟨i,.dead,[(nm,cZ off (s.get y) c)],[]⟩]) (nN ops s ⟨i,.dead,[(nm,cZ off (s.get y) c)],[]⟩) k
     | none=>False
    | none,none,.vpt nm off=>match aj nm s.vc,(s.get y).toD with
     | some c,some d=>(H i).contains nm=false∧(s.get y).notNil=true∧isCells (s.get y)=true∧tsz P ty≠0∧d.cells.length=tsz P ty∧off % c.1+tsz P ty≤c.1∧off / c.1<c.2.length ∧
       qA P p ops H rest (L++[⟨i,.dead,[],[(nm,(c.1,zY c.1 off d c.2))]⟩]) (nN ops s ⟨i,.dead,[],[(nm,(c.1,zY c.1 off d c.2))]⟩) k
     | _,_=>False
    | _,_,_=>False
   | _=>calm o.op=true∧o.dst.isSome=true∧uw s o.op=true∧bP P (BZ P) p ops [o] (hide (H i) s) fun s' =>
     qA P p ops H rest (L++[⟨i,lkD o.dst s',[],[]⟩]) { s' with bx:=s.bx,vc:=s.vc } k
  | none=>False
def WS (ops:Array Oper) (p:Name) (i:Nat):List Name:=match ops[i]? with
 | some o=>match o.op,o.dst with
  | .alloc _,some t=>[t::p]
  | _,_=>[]
 | none=>[]
theorem TB {H:List Name} (x:Operand):(hide H s).get x=s.get x:=by cases x <;> rfl
theorem Cj {α:Type} {nm nm' : Name} {c:α}:∀ {l:List (Name×α)} {c0:α},aj nm l=some c0→aj nm' (cO nm c l)=if nm=nm' then some c else aj nm' l
 | [],c0,h=>by simp [aj] at h
 | x::l,c0,h=>by
  obtain ⟨a,b⟩:=x
  simp only [aj] at h
  simp only [cO]
  split
  ·rename_i e;subst e
   simp only [aj]
   split <;> rfl
  ·rename_i e
   rw [if_neg e] at h
   simp only [aj,Cj h]
   split
   ·rename_i e2;subst e2;rw [if_neg (fun e3=>e e3.symm)]
   ·rfl
theorem ES {H:Nat→List Name} {s0:Sa} {k:List Eff→Sa→Prop}:∀ (l:List Nat) {L0:List Eff} {s:Sa},qA P p ops H l L0 s k→Eqv s (bT ops s0 L0) →
  ∃ L' s',L'.map (·.i)=l∧k (L0++L') s' ∧ Eqv s' (bT ops s0 (L0++L'))∧∀ L1 e L2,L' = L1++e::L2→Fact P p ops s0 (fun i nm=>(H i).contains nm) (WS ops p) (L0++L1) e
 | [],L0,s,h,hE=>⟨[],s,rfl,by simpa [qA] using h,by simpa using hE,fun L1 e L2 h=>by simp at h⟩
 | i::rest,L0,s,h,hE=>by
  have f0:=mQ (ops:=ops) (s:=s0) L0
  have fin:∀ (e:Eff) (s1:Sa),e.i=i→qA P p ops H rest (L0++[e]) s1 k→Eqv s1 (nN ops s e)→Fact P p ops s0 (fun i nm=>(H i).contains nm) (WS ops p) L0 e →
    ∃ L' s',L'.map (·.i)=i::rest∧k (L0++L') s' ∧ Eqv s' (bT ops s0 (L0++L'))∧∀ L1 e L2,L' = L1++e::L2→Fact P p ops s0 (fun i nm=>(H i).contains nm) (WS ops p) (L0++L1) e:=by
   intro e s1 hi hr h1 hf
   have hE2:Eqv (nN ops s e) (nN ops (bT ops s0 L0) e):=by
    unfold nN
    have h0:Eqv ({ s with bx:=iO e.w s.bx,vc:=iO e.wv s.vc }:Sa) ({ bT ops s0 L0 with bx:=iO e.w (bT ops s0 L0).bx,vc:=iO e.wv (bT ops s0 L0).vc }:Sa) :=
     ⟨hE.rd,hE.n,hE.sv,fun nm=>by simp only [gU,hE.bx nm],hE.lp,hE.ow,hE.ts,fun nm=>by simp only [gU,hE.vc nm]⟩
    exact h0.put _ _
   obtain ⟨L',s',g1,g2,g3,g4⟩:=ES rest hr (by rw [Ce];exact h1.trans hE2)
   refine ⟨e::L',s',by simp [hi,g1],by simpa using g2,by simpa using g3,fun L1 x L2 hx=>?_⟩
   cases L1 with
   | nil =>
    simp only [List.nil_append,List.cons.injEq] at hx
    obtain ⟨rfl,_⟩:=hx
    simpa using hf
   | cons y L1 =>
    simp only [List.cons_append,List.cons.injEq] at hx
    obtain ⟨rfl,hx⟩:=hx
    have:=g4 L1 x L2 hx
    simpa using this
  simp only [qA] at h
  split at h
  ·rename_i o ho
   split at h
   ·rename_i ty hop
    split at h
    ·rename_i t hd hg
     obtain ⟨h1,h2,h3,h4,h5,h6,h7⟩:=h
     refine fin _ _ rfl h7 (Eqv.refl _) ⟨o,ho,fun s' e1 e2 e3 e4 e5 e9 e6 e7 e8 k' hk'=>?_⟩
     simp only [bP,hd,hg,aP,hop,Option.getD_some,nY h3]
     refine ⟨by rw [e2,← f0.2.1,← hE.n];exact h1,h4,h5,e8 _ (by simp [WS,ho,hop,hd]),by rw [e7 _ h2,← hE.bx];exact h6,hk' _ ?_⟩
     have:aS ops i=some t:=(dY ho).trans hd
     simp only [nN,this]
     exact Eqv.refl _
    ·exact h.elim
   ·rename_i ty x y hop
    split at h
    ·rename_i nm off hd hg hx
     split at h
     ·rename_i c hc
      obtain ⟨h1,h2,h3,h4,h5,h6,h7⟩:=h
      refine fin _ _ rfl h7 (Eqv.refl _) ⟨o,ho,fun s' e1 e2 e3 e4 e5 e9 e6 e7 e8 k' hk'=>?_⟩
      have hr:=xq (ops:=ops) (s:=s) (s':=s') (o:=o) (fun t ht=>(e6 t ht).trans (hE.ts t).symm)
      have gx:=hr x (by simp [hop,Op.operands])
      have gy:=hr y (by simp [hop,Op.operands])
      have gb:aj nm s'.bx=some c:=by rw [e7 _ h1,← hE.bx];exact hc
      simp only [bP,hd,hg,aP,hop,gx,gy,hx,gb,nY h2]
      refine ⟨trivial,h3,h4,h5,h6,hk' _ ?_⟩
      have:aS ops i=none:=(dY ho).trans hd
      simp only [nN,this,Sa.put]
      refine ⟨rfl,rfl,rfl,fun nm'=>?_,rfl,rfl,fun _=>rfl,fun _=>rfl⟩
      simp only [Cj gb,iO,List.foldl,addN,aj]
     ·exact h.elim
    ·rename_i nm off hd hg hx
     split at h
     ·rename_i c d hc hd'
      obtain ⟨h1,h2,h3,h4,h5,h6,h7,h8⟩:=h
      refine fin _ _ rfl h8 (Eqv.refl _) ⟨o,ho,fun s' e1 e2 e3 e4 e5 e9 e6 e7 e8 k' hk'=>?_⟩
      have hr:=xq (ops:=ops) (s:=s) (s':=s') (o:=o) (fun t ht=>(e6 t ht).trans (hE.ts t).symm)
      have gx:=hr x (by simp [hop,Op.operands])
      have gy:=hr y (by simp [hop,Op.operands])
      have gb:aj nm s'.vc=some c:=by rw [e9 _ h1,← hE.vc];exact hc
      simp only [bP,hd,hg,aP,hop,gx,gy,hx,gb,hd']
      refine ⟨trivial,h4,h3,h5,h6,h7,hk' _ ?_⟩
      have:aS ops i=none:=(dY ho).trans hd
      simp only [nN,this,Sa.put]
      refine ⟨rfl,rfl,rfl,fun _=>rfl,rfl,rfl,fun _=>rfl,fun nm'=>?_⟩
      simp only [Cj gb,iO,List.foldl,addN,aj]
     ·exact h.elim
    ·exact h.elim
   ·obtain ⟨h1,h2,h3,h4⟩:=h
    have hn:uw (hide (H i) s) o.op=true:=by
     rw [← h3]
     cases o.op <;> simp only [uw,TB]
    obtain ⟨v,s1,hl,hk,hf⟩:=Jo ho h1 hn h4
    obtain ⟨d,hd⟩:=Option.isSome_iff_exists.1 h2
    have hv:lkD o.dst (s1.put o.dst v)=v:=by rw [hd];simp [lkD,Sa.put,gB]
    rw [hv] at hk
    have hdst:aS ops i=o.dst:=dY ho
    refine fin ⟨i,v,[],[]⟩ _ rfl hk ?_ ?_
    ·simp only [nN,hdst,iO,List.foldl]
     refine ⟨?_,?_,?_,fun nm=>?_,?_,?_,fun t=>?_,fun nm=>?_⟩
     ·rw [hd];exact hl.rd
     ·rw [hd];exact hl.n
     ·rw [hd];exact hl.sv
     ·rw [hd];rfl
     ·rw [hd];exact hl.lp
     ·rw [hd];exact hl.ow
     ·rw [hd];simp only [Sa.put,gB,hl.ts t];rfl
     ·rw [hd];rfl
    ·obtain ⟨o',ho',hf⟩:=hf
     rw [ho] at ho'; cases ho'
     refine ⟨o,ho,fun s' e1 e2 e3 e4 e5 e9 e6 e7 e8 k' hk'=>hf s' ⟨fun nm c hc=>?_,fun nm c hc=>?_⟩ (by rw [e2,← f0.2.1,← hE.n];rfl) (fun t ht=>(e6 t ht).trans (hE.ts t).symm) k' fun s2 hs2=>hk' _ ?_⟩
     ·simp only [hide,lV] at hc
      split at hc
      ·cases hc
      ·rename_i hh
       rw [e7 nm (by simpa using hh),← hE.bx];exact hc
     ·simp only [hide,lV] at hc
      split at hc
      ·cases hc
      ·rename_i hh
       rw [e9 nm (by simpa using hh),← hE.vc];exact hc
     ·simp only [nN,hdst,iO,List.foldl]
      exact (hs2.put o.dst v).eqv
  ·exact h.elim
end Go.Ab
namespace Go.Ab
open Go Go.RowKit
variable {P:Program} {a:Act} {w:World} {n:Nat} {Mo:Cells} {m:Mp} {s:Sa} {p:Name} {sv:List Act} {ops:Array Oper}
def aaJ (ops:Array Oper) (pre:Nat→List Nat):List Nat→List Nat→Bool
 | _,[]=>true
 | E,i::rest=>(lD ops i).all E.contains&&((pre i).all E.contains&&((pre i).all (fun j=>(lD ops i).contains j || (lD ops i).any fun q=>(pre q).contains j)&&(!E.contains i&&aaJ ops pre (i::E) rest)))
def ET (pre:Nat→List Nat) (i j:Nat):Bool:=!(Nat.beq i j)&&(!(pre i).contains j && !(pre j).contains i)
def Zn (ops:Array Oper) (pre:Nat→List Nat) (i j:Nat):Bool:=!ET pre i j || match aS ops j with
 | some t=>aS ops i != some t && !(readsOf ops i).contains t
 | none=>true
def WT (ops:Array Oper) (pre:Nat→List Nat) (ord:List Nat):Bool :=
 aaJ ops pre [] ord&&(Nat.beq ord.length ops.size&&((List.range ops.size).all ord.contains&&ord.all fun i=>ord.all fun j=>Zn ops pre i j))
def TD (pre:Nat→List Nat) (i j:Nat):Prop:=i≠j∧j ∉ pre i∧i ∉ pre j
def EU (e:Eff):List Name:=e.w.map (·.1)++e.wv.map (·.1)
def abE (ops:Array Oper) (p:Name) (pre:Nat→List Nat) (H:Nat→List Name) (s0:Sa) (L:List Eff):Prop :=
 (∀ e∈L,∀ x∈L,TD pre e.i x.i→∀ y∈EU x,(H e.i).contains y=true∧∀ z∈EU e,z≠y) ∧
 ∀ e∈L,∀ nm∈WS ops p e.i,s0.refs nm=false∧∀ x∈L,e.i≠x.i→e.i ∉ pre x.i→x.v.refs nm=false∧∀ y∈x.w,y.2.refs nm=false
theorem Aq {pre:Nat→List Nat} {i j:Nat}:ET pre i j=true↔TD pre i j:=by
 simp only [ET,TD,Bool.and_eq_true,Bool.not_eq_true',List.contains_eq_mem,decide_eq_false_iff_not]
 constructor
 ·rintro ⟨h1,h2,h3⟩
  exact ⟨fun e=>(by subst e;rw [Nat.beq_refl] at h1;cases h1),h2,h3⟩
 ·rintro ⟨h1,h2,h3⟩
  refine ⟨?_,h2,h3⟩
  cases hb:Nat.beq i j with
  | false=>rfl
  | true=>exact absurd (Nat.eq_of_beq_eq_true hb) h1
theorem Ar {pre:Nat→List Nat}:∀ {l E:List Nat},aaJ ops pre E l=true→l.Nodup∧(∀ j∈l,j ∉ E)∧∀ A i B,l=A++i::B→(∀ j∈lD ops i,j∈E∨j∈A)∧(∀ j∈pre i,j∈E∨j∈A)∧∀ j∈pre i,j∈lD ops i∨∃ q∈lD ops i,j∈pre q
 | [],E,_=>⟨List.nodup_nil,by simp,fun A i B h=>by simp at h⟩
 | x::l,E,h=>by
  simp only [aaJ,Bool.and_eq_true,Bool.not_eq_true',List.contains_eq_mem,decide_eq_false_iff_not,List.all_eq_true,decide_eq_true_eq,Bool.or_eq_true,List.any_eq_true] at h
  obtain ⟨h1,h2,h3,h4,h5⟩:=h
  obtain ⟨g1,g2,g3⟩:=Ar h5
  refine ⟨List.nodup_cons.2 ⟨fun hc=>g2 x hc List.mem_cons_self,g1⟩,fun j hj=>?_,fun A i B he=>?_⟩
  ·rcases List.mem_cons.1 hj with rfl | hj
   ·exact h4
   ·exact fun hc=>g2 j hj (List.mem_cons_of_mem _ hc)
  ·cases A with
   | nil =>
    simp only [List.nil_append,List.cons.injEq] at he
    obtain ⟨rfl,_⟩:=he
    exact ⟨fun j hj=>.inl (h1 j hj),fun j hj=>.inl (h2 j hj),fun j hj=>h3 j hj⟩
   | cons y A =>
    simp only [List.cons_append,List.cons.injEq] at he
    obtain ⟨rfl,he⟩:=he
    obtain ⟨k1,k2,k3⟩:=g3 A i B he
    have mv:∀ j,(j∈x::E∨j∈A)→(j∈E∨j∈x::A):=by
     rintro j (h | h)
     ·rcases List.mem_cons.1 h with rfl | h
      ·exact .inr List.mem_cons_self
      ·exact .inl h
     ·exact .inr (List.mem_cons_of_mem _ h)
    exact ⟨fun j hj=>mv j (k1 j hj),fun j hj=>mv j (k2 j hj),k3⟩
theorem xE {α:Type} {nm:Name}:∀ {ws:List (Name×α)},(nM nm ws).isSome=true→∃ y∈ws,y.1=nm
 | [],h=>by cases h
 | x::ws,h=>by
  simp only [nM] at h
  cases hw:nM nm ws with
  | some c=>obtain ⟨y,hy,e⟩:=xE (nm:=nm) (ws:=ws) (by rw [hw];rfl);exact ⟨y,List.mem_cons_of_mem _ hy,e⟩
  | none =>
   rw [hw] at h
   simp only at h
   split at h
   ·rename_i e;exact ⟨x,List.mem_cons_self,e⟩
   ·cases h
theorem uy {nm:Name} {e:Eff} (h:writes nm e=true):nm∈EU e:=by
 simp only [writes,Bool.or_eq_true] at h
 rcases h with h | h
 ·obtain ⟨y,hy,rfl⟩:=xE h
  exact List.mem_append_left _ (List.mem_map_of_mem hy)
 ·obtain ⟨y,hy,rfl⟩:=xE h
  exact List.mem_append_right _ (List.mem_map_of_mem hy)
theorem Zo {id:Nat} {Q:Ex→Sa→Prop} (ord:List Nat) (pre:Nat→List Nat) (H:Nat→List Name) (hm:P.follows .mixedOrders=true) (hp:WT ops pre ord=true)
  (h:qA P p ops H ord [] s fun L s'=>abE ops p pre H s L∧Q .norm s'):TC P p (.region id ops true) s Q:=fun Mo m a sv w n hR=>by
 simp only [WT,Bool.and_eq_true] at hp
 obtain ⟨hp1,hp2,hp3,hp4⟩:=hp
 have hlen:=Nat.eq_of_beq_eq_true hp2
 obtain ⟨o1,o2,o3⟩:=Ar hp1
 obtain ⟨L,s',hL,⟨⟨c1,c2⟩,hq⟩,hE,hF⟩:=ES (s0:=s) ord h (Eqv.refl _)
 simp only [List.nil_append] at hE hF c1 c2
 have mem_ord:∀ e∈L,e.i∈ord:=fun e he=>by rw [← hL];exact List.mem_map_of_mem he
 have pair:∀ e∈L,∀ x∈L,TD pre e.i x.i→∀ t,aS ops x.i=some t→aS ops e.i≠some t∧t ∉ readsOf ops e.i:=fun e he x hx hu t ht=>by
  have:=List.all_eq_true.1 (List.all_eq_true.1 hp4 e.i (mem_ord e he)) x.i (mem_ord x hx)
  simp only [Zn,Aq.2 hu,Bool.not_true,Bool.false_or,ht,Bool.and_eq_true,bne_iff_ne,Bool.not_eq_true',List.contains_eq_mem,decide_eq_false_iff_not] at this
  exact this
 have hM:Mix P p ops s L pre (fun i nm=>(H i).contains nm) (WS ops p):=by
  refine ⟨by rw [hL];exact o1,fun j hj=>?_,fun e he j hj=>?_,fun L1 e L2 he=>?_,fun e he x hx h1 h2 h3 t ht hc=>?_,fun e he x hx h1 h2 h3 t ht=>(pair e he x hx ⟨h1,h2,h3⟩ t ht).2,fun e he x hx h1 h2 h3 nm hw=>?_,fun e he x hx h1 h2 h3 nm hw=>?_,c2,hF⟩
  ·have:j∈ord:=by simpa using List.all_eq_true.1 hp3 j (List.mem_range.2 hj)
   rw [← hL] at this
   obtain ⟨e,he,h⟩:=List.mem_map.1 this
   exact ⟨e,he,h⟩
  ·obtain ⟨L1,L2,hs⟩:=List.append_of_mem he
   exact (o3 (L1.map (·.i)) e.i (L2.map (·.i)) (by rw [← hL,hs];simp)).2.2 j hj
  ·obtain ⟨k1,k2,_⟩:=o3 (L1.map (·.i)) e.i (L2.map (·.i)) (by rw [← hL,he];simp)
   have cv:∀ j,(j∈([]:List Nat)∨j∈L1.map (·.i))→∃ x∈L1,x.i=j:=by
    rintro j (h | h)
    ·cases h
    ·obtain ⟨x,hx,e⟩:=List.mem_map.1 h;exact ⟨x,hx,e⟩
   exact ⟨fun j hj=>cv j (k2 j hj),fun j hj=>cv j (k1 j hj)⟩
  ·exact (pair e he x hx ⟨h1,h2,h3⟩ t hc).1 ht
  ·exact (c1 e he x hx ⟨h1,h2,h3⟩ nm (uy hw)).1
  ·cases hwx:writes nm x with
   | false=>rfl
   | true=>exact absurd rfl ((c1 e he x hx ⟨h1,h2,h3⟩ nm (uy hwx)).2 nm (uy hw))
 have hb:Below w.heap.size w { w with drawn:=w.drawn+1 }:=⟨rfl,rfl,rfl,Nat.le_refl _,fun _ _=>rfl⟩
 refine wpIn_region_any hm ?_
 have e0:(L.filter fun e=>(fun _=>false) e.i)=[]:=List.filter_eq_nil_iff.2 fun _ _=>by simp
 have hfuel:(L.filter fun e=>!(fun _=>false) e.i).length=ops.size:=by
  rw [show (L.filter fun e=>!(fun _=>false) e.i)=L from List.filter_eq_self.2 (fun _ _=>rfl),← hlen,← hL,List.length_map]
 have hst:=Step.of_below (m:=m) (s:=s) hb
 refine OH (ds:=a.defers) hM (fun m' s2 a' w' hk hR' hs' hr hd=>?_) ops.size (fun _=>false) _ m a _ hfuel (fun e _ h=>by cases h) (by rw [e0];exact hR.below hb) (by rw [e0];exact hst) (by rw [e0];rfl) rfl ⟨by simp,fun j hj=>by simp [hj]⟩
 obtain ⟨m3,hR3,hst3,hrd3⟩:=(hk.trans hE.symm).wk Mo m' _ w' hR'
 exact ⟨.norm,m3,s',rfl,hq,hR3,hs'.trans hst3,hrd3.trans hr,by rw [hd];exact .refl⟩
end Go.Ab
namespace Go.Ab
open Go Go.RowKit
section
variable {P:Program} {b:Frame} {a:Act} {k:List Item} {cs:List Frame} {w:World} {Q:Exit→Act→World→Prop} {F:Machine→Prop} {n:Nat}
theorem iW {c:Code}:step P (lone (b.atR a (.code (.scope c)::k)) cs w) = .next (lone (b.atR a (.code c :: .inScope c::k)) cs w) :=
 step_lone_go (by simp [stepG,stepG.exec,Frame.atR])
theorem Cm {c:Code}:step P (lone (b.atR a (.inScope c::k)) cs w) = .next (lone (b.atR a k) cs w) :=
 step_lone_go (by simp [stepG,stepG.exec,Frame.atR])
end
section
variable {P:Program} {a:Act} {w:World} {Q:Exit→Act→World→Prop} {n:Nat}
theorem LV {F} {c:Code} (h:c.wpIn F n P (Exit.noGoto Q) a w):(Code.scope c).wpIn F n P Q a w:=by
 intro b k cs hro hb hr
 have h0:(lone (b.atR a (.code (.scope c)::k)) cs w).fenced P F:=fenced_calm hb hr rfl
 obtain ⟨e,a₁,w₁,hq,harr⟩:=h b (.inScope c::k) cs hro hb hr
 cases e with
 | normal=>exact ⟨.normal,a₁,w₁,hq,.head h0 iW (StepsIn.trans harr (.one (fenced_calm hb hr rfl) Cm))⟩
 | exit id =>
  have hx:exitTo id (.inScope c::k)=exitTo id k:=by simp [exitTo]
  exact ⟨.exit id,a₁,w₁,hq,fun k' hk=>.head h0 iW (harr.1 k' (by rw [hx];exact hk)),
   fun hr' hk=>let ⟨k₁,h1,h2⟩:=harr.2 hr' (by rw [hx];exact hk);⟨k₁,h1,.head h0 iW h2⟩⟩
 | goto l=>exact hq.elim
 | ret=>exact ⟨_,a₁,w₁,hq,.of_steps (.one h0 iW) harr⟩
 | panic ch=>exact ⟨_,a₁,w₁,hq,.of_steps (.one h0 iW) harr⟩
 | outgrown=>exact ⟨_,a₁,w₁,hq,.of_steps (.one h0 iW) harr⟩
end
variable {P:Program} {s:Sa} {p:Name}
theorem TF {l:Nat} {Q:Ex→Sa→Prop} (h:Q .norm s):TC P p (.label l) s Q:=fun _ m _ _ _ _ hR=>wpIn_label ⟨.norm,m,s,rfl,h,hR,Step.refl _ _ _,rfl,.refl⟩
theorem TG {c:Code} {Q:Ex→Sa→Prop} (h:TC P p c s Q):TC P p (.scope c) s Q:=fun Mo m a sv w n hR=>by
 refine LV (wpIn_mono (h Mo m a sv w n hR) ?_)
 intro e a' w' hq
 obtain ⟨x,m',s',h1,h2⟩:=hq
 cases e with
 | goto l=>cases h1
 | _=>exact ⟨x,m',s',h1,h2⟩
end Go.Ab
namespace Go.Tx
open Go Go.Ab
inductive Cst where
 | nilf | nilp | nilm | nili | fnc (g:Nat)
 deriving DecidableEq
def Cst.val:Cst→Value
 | .nilf=>.nilFunc
 | .nilp=>.pointer none
 | .nilm=>.map none
 | .nili=>.nilIface
 | .fnc g=>.func (.func g) #[] #[]
inductive Ty where
 | int (k:IntKind) | bool | str | cst (c:Cst) | unit | prod (a b:Ty) | st (a:Ty) | arr (n:Nat) (t:Ty) | sl (t:Ty) | mp (k:IntKind) (t:Ty)
 deriving DecidableEq,Inhabited
abbrev Ty.den:Ty→Type
 | .int _=>Int
 | .bool=>Bool
 | .str=>ByteArray
 | .cst _=>Unit
 | .unit=>Unit
 | .prod a b=>a.den×b.den
 | .st a=>a.den
 | .arr n t=>Fin n→t.den
 | .sl t=>List t.den
 | .mp _ t=>List (Int×t.den)
def Ty.size:Ty→Nat
 | .unit=>0
 | .prod a b=>a.size+b.size
 | .st a=>a.size
 | .arr n t=>n * t.size
 | .mp _ _=>0
 | _=>1
def Ty.ag:Ty→Option Bool
 | .st _=>some true
 | .arr _ _=>some true
 | .unit=>none
 | .prod _ _=>none
 | .mp _ _=>none
 | _=>some false
def jw (t:Ty) (cs:List D):D:=match t.ag with
 | some false=>cs.headD default
 | _=>.agg cs
def enc:(t:Ty)→t.den→List D
 | .int k,n=>[.v (.int k n)]
 | .bool,b=>[.v (.bool b)]
 | .str,s=>[.v (.string s)]
 | .cst c,_=>[.v c.val]
 | .unit,_=>[]
 | .prod a b,x=>enc a x.1++enc b x.2
 | .st a,x=>enc a x
 | .arr n t,f=>(List.finRange n).flatMap fun i=>enc t (f i)
 | .sl t,xs=>[.sl (xs.map fun x=>jw t (enc t x))]
 | .mp _ _,_=>[]
def bD (t:Ty) (x:t.den):D:=jw t (enc t x)
def Ty.zero:(t:Ty)→t.den
 | .int _=>(0:Int)
 | .bool=>false
 | .str=>ByteArray.empty
 | .cst _=>()
 | .unit=>()
 | .prod a b=>(a.zero,b.zero)
 | .st a=>a.zero
 | .arr _ t=>fun _=>t.zero
 | .sl _=>[]
 | .mp _ _=>[]
abbrev Val:=(t:Ty)×t.den
def Val.d (v:Val):D:=bD v.1 v.2
def wfT:(t:Ty)→t.den→Prop
 | .int k,n=>inR k n=true
 | .bool,_=>True
 | .str,s=>s.size≤9223372036854775807
 | .cst _,_=>True
 | .unit,_=>True
 | .prod a b,x=>wfT a x.1∧wfT b x.2
 | .st a,x=>wfT a x
 | .arr _ t,f=>∀ i,wfT t (f i)
 | .sl t,xs=>xs.length≤9223372036854775807∧∀ x∈xs,wfT t x
 | .mp _ t,l=>∀ x∈l,wfT t x.2
def Val.wf (v:Val):Prop:=wfT v.1 v.2
def Ty.LW:Ty→Bool
 | .prod a b=>a.LW&&b.LW
 | .st a=>a.LW
 | .arr _ t=>t.LW
 | .sl t=>t.LW
 | .mp _ _=>false
 | _=>true
theorem ak:∀ (t:Ty) (x:t.den),(enc t x).length=t.size
 | .int _,_ | .bool,_ | .str,_ | .cst _,_ | .unit,_ | .sl _,_ | .mp _ _,_=>rfl
 | .prod a b,x=>by simp [enc,Ty.size,ak a,ak b]
 | .st a,x=>by simpa [enc,Ty.size] using ak a x
 | .arr n t,f=>by
  have e:(fun i=>(enc t (f i)).length)=fun _=>t.size:=funext fun i=>ak t _
  show ((List.finRange n).flatMap fun i=>enc t (f i)).length=n * t.size
  rw [List.length_flatMap,e,List.map_const',List.length_finRange,List.sum_replicate_nat]
theorem D.OI (cs:List D):(D.agg cs).cells=cs:=rfl
def D.flat:D→Bool
 | .agg _=>false
 | _=>true
theorem D.LX {x:D} (h:D.flat x=true):x.cells=[x]:=by cases x <;> simp_all [D.flat,D.cells]
theorem xG {t:Ty} (h:t.ag=some false) (x:t.den):∃ y,enc t x=[y]∧D.flat y=true:=by
 cases t <;> simp_all [Ty.ag,enc] <;> rfl
theorem aF (t:Ty) (x:t.den):(bD t x).cells=enc t x:=by
 unfold bD jw
 split
 ·rename_i h
  obtain ⟨y,e,hf⟩:=xG h x
  rw [e];exact D.LX hf
 ·rfl
theorem bY {t:Ty} (h:t.ag=some true) (x:t.den):bD t x = .agg (enc t x):=by simp [bD,jw,h]
theorem Hq {xs:List D}:D.wfL xs↔∀ x∈xs,x.wf:=by
 induction xs with
 | nil=>simp [D.wfL]
 | cons x xs ih=>simp [D.wfL,ih]
theorem WU {t:Ty} {x:t.den} (h:∀ y∈enc t x,y.wf):(bD t x).wf:=by
 unfold bD jw
 split
 ·rename_i ha
  obtain ⟨y,e,_⟩:=xG ha x
  rw [e];exact h y (by rw [e];simp)
 ·simp only [D.wf];exact Hq.2 h
theorem Js {d:D} (h:d.wf):∀ y∈d.cells,y.wf:=by
 cases d with
 | v c=>simpa [D.cells] using h
 | agg cs=>simpa [D.cells,D.wf,Hq] using h
 | sl xs=>simpa [D.cells] using h
theorem uz:∀ (t:Ty) (x:t.den),t.LW=true→(∀ y∈enc t x,y.wf)→wfT t x
 | .int k,n,_,h=>by simp only [enc,List.mem_singleton,forall_eq,D.wf,dJ] at h;exact h
 | .bool,_,_,_=>trivial
 | .str,_,_,h=>by simp only [enc,List.mem_singleton,forall_eq,D.wf,dJ] at h;exact h
 | .cst c,_,_,_=>trivial
 | .unit,_,_,_=>trivial
 | .mp _ _,_,hn,_=>by simp [Ty.LW] at hn
 | .prod a b,x,hn,h=>by
  simp only [Ty.LW,Bool.and_eq_true] at hn
  simp only [enc,List.mem_append] at h
  exact ⟨uz a _ hn.1 fun y hy=>h y (.inl hy),uz b _ hn.2 fun y hy=>h y (.inr hy)⟩
 | .st a,x,hn,h=>uz a x hn h
 | .arr n t,f,hn,h=>fun i=>uz t _ hn fun y hy=>h y (by
   simp only [enc,List.mem_flatMap];exact ⟨i,List.mem_finRange i,hy⟩)
 | .sl t,xs,hn,h=>by
  simp only [enc,List.mem_singleton,forall_eq,D.wf,List.length_map,Hq,List.mem_map,forall_exists_index,and_imp,forall_apply_eq_imp_iff₂] at h
  exact ⟨h.1,fun x hx=>uz t x hn fun y hy=>Js (h.2 x hx) y (by rw [show jw t (enc t x)=bD t x from rfl,aF];exact hy)⟩
theorem Val.Hr {v:Val} (hn:v.1.LW=true) (h:v.d.wf):v.wf:=uz _ _ hn fun y hy=>Js h y (by rw [show v.d=bD v.1 v.2 from rfl,aF];exact hy)
theorem gG {t:Ty} {xs:List t.den}:Val.wf ⟨.sl t,xs⟩↔xs.length≤9223372036854775807∧∀ x∈xs,Val.wf ⟨t,x⟩:=Iff.rfl
theorem uD {a b:Ty} {x:a.den×b.den}:Val.wf ⟨.prod a b,x⟩↔Val.wf ⟨a,x.1⟩∧Val.wf ⟨b,x.2⟩:=Iff.rfl
theorem Zp {a:Ty} {x:a.den}:Val.wf ⟨.st a,x⟩↔Val.wf ⟨a,x⟩:=Iff.rfl
theorem Ju {n:Nat} {t:Ty} {f:Fin n→t.den}:Val.wf ⟨.arr n t,f⟩↔∀ i,Val.wf ⟨t,f i⟩:=Iff.rfl
theorem jD {k:IntKind} {n:Int}:Val.wf ⟨.int k,n⟩↔inR k n=true:=Iff.rfl
theorem gV {b:Bool}:Val.wf ⟨.bool,b⟩:=trivial
theorem OJ {s:ByteArray}:Val.wf ⟨.str,s⟩↔s.size≤9223372036854775807:=Iff.rfl
theorem Vw {c:Cst} {x:Unit}:Val.wf ⟨.cst c,x⟩:=trivial
theorem OL {x:Unit}:Val.wf ⟨.unit,x⟩:=trivial
theorem WV {k:IntKind} {t:Ty} {l:List (Int×t.den)}:Val.wf ⟨.mp k t,l⟩↔∀ x∈l,Val.wf ⟨t,x.2⟩:=Iff.rfl
theorem qQ:∀ t:Ty,Val.wf ⟨t,t.zero⟩
 | .int k=>by rw [jD];cases k <;> rfl
 | .bool=>gV
 | .str=>by rw [OJ];simp [Ty.zero]
 | .cst _=>Vw
 | .unit=>OL
 | .prod a b=>uD.2 ⟨qQ a,qQ b⟩
 | .st a=>Zp.2 (qQ a)
 | .arr _ t=>Ju.2 fun _=>qQ t
 | .sl t=>gG.2 ⟨by simp [Ty.zero],by simp [Ty.zero]⟩
 | .mp _ t=>WV.2 (by simp [Ty.zero])
end Go.Tx
