import Derived.Test.YtleeccmcgophfaaGreatPD
set_option linter.all false
namespace Go.Ab
open Go Go.RowKit
variable {P : Program} {a : Act} {w : World} {n : Nat} {Mo : Cells} {m : Mp} {s : Sa} {p : Name} {k : Sa → Prop} {Q : Exit → Act → World → Prop} {sv : List Act} {ops : Array Oper}
def Listed (ops : Array Oper) (listed : Array Bool) (D : Nat → Prop) : Prop:=listed.size = ops.size ∧ ∀ j < ops.size,(listed.getD j true = true ↔ D j)
theorem Listed.set {listed : Array Bool} {D : Nat → Prop} (h : Listed ops listed D) (i : Nat) : Listed ops (listed.setIfInBounds i true) (fun j=>D j ∨ j = i):=by
 refine ⟨by simp [h.1],fun j hj=>?_⟩
 by_cases hij : i = j
 ·subst hij
  have : i < listed.size:=by rw [h.1]; exact hj
  simp [this]
 ·rw [getD_set_ne true hij,h.2 j hj]
  constructor
  ·exact fun x=>.inl x
  ·rintro (x | x)
   ·exact x
   ·exact absurd x.symm hij
theorem Listed.false' {listed : Array Bool} {D : Nat → Prop} (h : Listed ops listed D) {j : Nat} (hj : j < ops.size) : listed.getD j false = true ↔ D j:=by
 rw [← h.2 j hj]
 have : j < listed.size:=by rw [h.1]; exact hj
 simp [this]
theorem Listed.congr {listed : Array Bool} {D D' : Nat → Prop} (h : Listed ops listed D) (e : ∀ j,D j ↔ D' j) : Listed ops listed D':=⟨h.1,fun j hj=>(h.2 j hj).trans (e j)⟩
theorem ready_inv {listed : Array Bool} {D : Nat → Prop} (h : Listed ops listed D) {i : Nat} (hi : i ∈ Region.ready .any ops listed) :
  i < ops.size ∧ ¬ D i ∧ ∃ o,ops[i]? = some o ∧ ∀ j ∈ aft o,listed.getD j false = true:=by
 obtain ⟨h1,o,ho,h2⟩:=mem_ready.1 hi
 have hlt : i < ops.size:=(Array.getElem?_eq_some_iff.1 ho).1
 refine ⟨hlt,fun hd=>?_,o,ho,fun j hj=>?_⟩
 ·rw [(h.2 i hlt).2 hd] at h1; cases h1
 ·simp only [aft,List.mem_map,List.mem_filter] at hj
  obtain ⟨e,⟨he,hb⟩,rfl⟩:=hj
  exact h2 e (by simpa using he) hb
theorem ready_intro {listed : Array Bool} {D : Nat → Prop} (h : Listed ops listed D) {i : Nat} {o : Oper} (ho : ops[i]? = some o) (hd : ¬ D i) (ha : ∀ j ∈ aft o,j < ops.size ∧ D j) :
  i ∈ Region.ready .any ops listed:=by
 have hlt : i < ops.size:=(Array.getElem?_eq_some_iff.1 ho).1
 refine mem_ready.2 ⟨?_,o,ho,fun e he hb=>?_⟩
 ·cases hx : listed.getD i true
  ·rfl
  ·exact absurd ((h.2 i hlt).1 hx) hd
 ·obtain ⟨h1,h2⟩:=ha e.on (by simp only [aft,List.mem_map,List.mem_filter]; exact ⟨e,⟨by simpa using he,hb⟩,rfl⟩)
  exact (h.false' h1).2 h2
def PartNext (P : Program) (ops : Array Oper) (Q : Exit → Act → World → Prop) (n : Nat) (Mo : Cells) (m : Mp) (s : Sa) (ds : List Deferred) (sv : List Act) (w : World) (fuel : Nat) (D : Nat → Prop) (k : Sa → Prop) : Prop :=
 ∀ m' s' a' w' listed,k s' → Rel Mo m' s' (a' :: sv) w' → Step m s w m' s' w' → rdOf m' s' = rdOf m s → a'.defers = ds → Listed ops listed D → wpAnyIn (Wd (rdOf m s)) n P .any ops Q fuel listed a' w'
theorem like_sets {L ivs : List (Nat × V)} (ha : Apart ops ivs) (h : ∀ x,x ∈ L ↔ x ∈ ivs) : Like (putAll ops s L) (putAll ops s ivs):=by
 obtain ⟨a1,a2,a3,a4,a5,a6⟩:=putAll_fields (ops:=ops) (s:=s) L
 obtain ⟨b1,b2,b3,b4,b5,b6⟩:=putAll_fields (ops:=ops) (s:=s) ivs
 refine ⟨a1.trans b1.symm,a2.trans b2.symm,a3.trans b3.symm,a4.trans b4.symm,a5.trans b5.symm,a6.trans b6.symm,fun t=>?_,(putAll_vc L).trans (putAll_vc ivs).symm⟩
 have hL : Apart ops L:=fun x hx y hy=>ha x ((h x).1 hx) y ((h y).1 hy)
 by_cases hex : ∃ x ∈ ivs,dstOf ops x.1 = some t
 ·obtain ⟨x,hx,hd⟩:=hex
  rw [lk_mem ha hx hd,lk_mem hL ((h x).2 hx) hd]
 ·rw [lk_not (fun x hx hd=>hex ⟨x,(h x).1 hx,hd⟩),lk_not (fun x hx hd=>hex ⟨x,hx,hd⟩)]
theorem first_in {α : Type} (l : List α) (q : α → Prop) (h : ∃ x ∈ l,q x) : ∃ pre x post,l = pre ++ x :: post ∧ q x ∧ ∀ y ∈ pre,¬ q y:=by
 induction l with
 | nil=>obtain ⟨x,hx,_⟩:=h; cases hx
 | cons a l ih =>
  by_cases ha : q a
  ·exact ⟨[],a,l,rfl,ha,by simp⟩
  ·obtain ⟨x,hx,hq⟩:=h
   rcases List.mem_cons.1 hx with e | e
   ·subst e; exact absurd hq ha
   ·obtain ⟨pre,x,post,e1,e2,e3⟩:=ih ⟨x,e,hq⟩
    refine ⟨a :: pre,x,post,by rw [e1]; rfl,e2,fun y hy=>?_⟩
    rcases List.mem_cons.1 hy with h | h
    ·subst h; exact ha
    ·exact e3 y h
theorem seg_sound {l done later : List Nat} {ivs : List (Nat × V)} (hl : ivs.map Prod.fst = l) (hcalm : ∀ i ∈ l,calmOK ops l i = true) (hord : orderOK ops done l = true)
  (hlater : ∀ i ∈ later,okAft ops i (fun al=>al.any later.contains || l.all (need ops l.reverse al).contains) = true) (hfresh : ∀ j ∈ later,j ∉ done ∧ j ∉ l) (hcov : ∀ j < ops.size,j ∈ done ∨ j ∈ l ∨ j ∈ later)
  (hdone : ∀ j ∈ done,j < ops.size)
  (hfact : ∀ pre i v post,ivs = pre ++ (i,v) :: post → OpFact P p ops i v (putAll ops s pre)) {fuel : Nat} {ds : List Deferred}
  (hN : PartNext P ops Q n Mo m s ds sv w fuel (fun j=>j ∈ done ∨ j ∈ l) (fun s'=>Like s' (putAll ops s ivs))) :
  ∀ (N : Nat) (L : List (Nat × V)) (todo : List Nat) (listed : Array Bool) (m' : Mp) (s' : Sa) (a' : Act) (w' : World),todo.length = N → todo.Nodup → (∀ j ∈ todo,j ∈ l) → (∀ x ∈ L,x ∈ ivs ∧ x.1 ∉ todo) → (∀ x ∈ ivs,x.1 ∉ todo → x ∈ L) →
   Like s' (putAll ops s L) → Rel Mo m' s' (a' :: sv) w' → Step m s w m' s' w' → rdOf m' s' = rdOf m s → a'.defers = ds → (∀ j ∈ l,j ∉ todo → ∀ q ∈ aftOf ops j,q ∈ done ∨ (q ∈ l ∧ q ∉ todo)) → Listed ops listed (fun j=>j ∈ done ∨ (j ∈ l ∧ j ∉ todo)) →
   wpAnyIn (Wd (rdOf m s)) n P .any ops Q (fuel + N) listed a' w':=by
 obtain ⟨hnd,hin⟩:=orderOK_nodup hord
 have hndf : (ivs.map Prod.fst).Nodup:=by rw [hl]; exact hnd
 have fst_in : ∀ x ∈ ivs,x.1 ∈ l:=fun x hx=>by rw [← hl]; exact List.mem_map.2 ⟨x,hx,rfl⟩
 have same : ∀ x ∈ ivs,∀ y ∈ ivs,x.1 = y.1 → x = y:=by
  intro x hx y hy e
  obtain ⟨i,hi,rfl⟩:=List.getElem_of_mem hx
  obtain ⟨j,hj,rfl⟩:=List.getElem_of_mem hy
  have:=(List.getElem_inj (xs:=ivs.map Prod.fst) (h₀:=by simpa using hi) (h₁:=by simpa using hj) hndf).1 (by simpa using e)
  subst this; rfl
 have apart : Apart ops ivs:=by
  intro x hx y hy t h1 h2
  refine same x hx y hy ?_
  have hc:=hcalm x.1 (fst_in x hx)
  unfold calmOK at hc
  split at hc
  ·rename_i o ho
   simp only [Bool.and_eq_true] at hc
   have:=List.all_eq_true.1 hc.2.2 y.1 (fst_in y hy)
   simp only [Bool.or_eq_true,beq_iff_eq,Bool.and_eq_true,bne_iff_ne] at this
   rcases this with h | ⟨h,_⟩
   ·exact h.symm
   ·exact absurd (by rw [h2,← dstOf_eq ho,h1]) h
  ·cases hc
 intro N
 induction N with
 | zero =>
  intro L todo listed m' s' a' w' hlen _ _ hL hL' hlike hR hst hrd hds _ hlisted
  have : todo = []:=List.eq_nil_of_length_eq_zero hlen
  subst this
  refine hN m' s' a' w' listed ?_ hR hst hrd hds (hlisted.congr fun j=>by simp)
  exact hlike.trans (like_sets apart fun x=>⟨fun hx=>(hL x hx).1,fun hx=>hL' x hx (by simp)⟩)
 | succ N ih =>
  intro L todo listed m' s' a' w' hlen htn htl hL hL' hlike hR hst hrd hds hclo hlisted
  have split_of : ∀ i ∈ todo,∃ pre v post o,ivs = pre ++ (i,v) :: post ∧ ops[i]? = some o ∧ (∀ j ∈ aft o,j ∈ done ∨ j ∈ pre.map Prod.fst) ∧ i ∉ done ∧ i ∉ pre.map Prod.fst:=by
   intro i hi
   have hil:=htl i hi
   rw [← hl] at hil
   obtain ⟨x,hx,rfl⟩:=List.mem_map.1 hil
   obtain ⟨pre,post,e⟩:=List.append_of_mem hx
   have hl2 : l = pre.map Prod.fst ++ x.1 :: post.map Prod.fst:=by rw [← hl,e]; simp
   rw [hl2] at hord
   obtain ⟨⟨o,ho,h1⟩,h2,h3⟩:=orderOK_split _ hord
   exact ⟨pre,x.2,post,o,e,ho,h1,h2,h3⟩
  refine ⟨fun hr=>?_,fun i hi=>?_⟩
  ·exfalso
   have htne : ∃ i,i ∈ todo:=by
    cases todo with
    | nil=>simp at hlen
    | cons i t=>exact ⟨i,List.mem_cons_self⟩
   obtain ⟨i0,hi0⟩:=htne
   obtain ⟨x0,hx0,e0⟩:=List.mem_map.1 (by rw [hl]; exact htl i0 hi0 : i0 ∈ ivs.map Prod.fst)
   obtain ⟨pre,x,post,e1,e2,e3⟩:=first_in ivs (fun x=>x.1 ∈ todo) ⟨x0,hx0,by rw [e0]; exact hi0⟩
   have hl2 : l = pre.map Prod.fst ++ x.1 :: post.map Prod.fst:=by rw [← hl,e1]; simp
   have hord2:=hord
   rw [hl2] at hord2
   obtain ⟨⟨o,ho,h1⟩,h2,h3⟩:=orderOK_split _ hord2
   have : x.1 ∈ Region.ready .any ops listed:=ready_intro hlisted ho (by rintro (h | h); exact h2 h; exact h.2 e2) (fun j hj=>by
    rcases h1 j hj with h | h
    ·exact ⟨hdone j h,.inl h⟩
    ·obtain ⟨y,hy,rfl⟩:=List.mem_map.1 h
     have hyi : y ∈ ivs:=by rw [e1]; exact List.mem_append_left _ hy
     exact ⟨(hin _ (fst_in y hyi)).2,.inr ⟨fst_in y hyi,e3 y hy⟩⟩)
   rw [hr] at this; cases this
  ·obtain ⟨hlt,hnD,o,ho,haft⟩:=ready_inv hlisted hi
   have hnd' : i ∉ done:=fun h=>hnD (.inl h)
   have hit : i ∈ todo:=by
    rcases hcov i hlt with h | h | h
    ·exact absurd h hnd'
    ·exact Classical.byContradiction fun hc=>hnD (.inr ⟨h,hc⟩)
    ·exfalso
     obtain ⟨o',ho',hb⟩:=okAft_inv (hlater i h)
     rw [ho] at ho'; cases ho'
     simp only [Bool.or_eq_true] at hb
     rcases hb with hb | hb
     ·obtain ⟨j,hj,hjl⟩:=List.any_eq_true.1 hb
      have hjl' : j ∈ later:=by simpa using hjl
      have h1:=haft j hj
      have hjs : j < ops.size:=by
       have : j < listed.size:=by
        rcases Nat.lt_or_ge j listed.size with h' | h'
        ·exact h'
        ·simp [Array.getElem?_eq_none h'] at h1
       rw [← hlisted.1]; exact this
      rcases (hlisted.false' hjs).1 h1 with h2 | h2
      ·exact (hfresh j hjl').1 h2
      ·exact (hfresh j hjl').2 h2.1
     ·have htne : ∃ i,i ∈ todo:=by
       cases todo with
       | nil=>simp at hlen
       | cons i t=>exact ⟨i,List.mem_cons_self⟩
      obtain ⟨j,hj⟩:=htne
      have hja:=List.all_eq_true.1 hb j (htl j hj)
      have hlt' : ∀ q,listed.getD q false = true → q < ops.size:=fun q h1=>by
       have : q < listed.size:=by
        rcases Nat.lt_or_ge q listed.size with h' | h'
        ·exact h'
        ·simp [Array.getElem?_eq_none h'] at h1
       rw [← hlisted.1]; exact this
      have h1:=need_all (ops:=ops) (q:=fun q=>q ∈ done ∨ (q ∈ l ∧ q ∉ todo)) (l:=l.reverse) (S:=aft o)
       (fun q hq=>(hlisted.false' (hlt' q (haft q hq))).1 (haft q hq))
       (fun q hq hqq x hx=>by
        have hql : q ∈ l:=by simpa using hq
        rcases hqq with hqq | hqq
        ·exact absurd hqq (hin q hql).1
        ·exact hclo q hql hqq.2 x hx) j (by simpa using hja)
      rcases h1 with h2 | h2
      ·exact (hin j (htl j hj)).1 h2
      ·exact h2.2 hj
   obtain ⟨pre,v,post,o',e1,ho',hpre,_,hipre⟩:=split_of i hit
   rw [ho] at ho'; cases ho'
   obtain ⟨o2,ho2,hf⟩:=hfact pre i v post e1
   rw [ho] at ho2; cases ho2
   have hivs : (i,v) ∈ ivs:=by rw [e1]; simp
   have hcal:=hcalm i (htl i hit)
   unfold calmOK at hcal
   rw [ho] at hcal
   simp only [Bool.and_eq_true] at hcal
   have hpi : ∀ y ∈ pre,y ∈ ivs:=fun y hy=>by rw [e1]; exact List.mem_append_left _ hy
   have hreads : ∀ t ∈ opReads ops o,lkT t s'.ts = lkT t (putAll ops s pre).ts:=by
    intro t ht
    rw [hlike.ts t]
    have hpap : Apart ops pre:=fun x hx y hy=>apart x (hpi x hx) y (hpi y hy)
    have hLap : Apart ops L:=fun x hx y hy=>apart x (hL x hx).1 y (hL y hy).1
    by_cases hex : ∃ y ∈ ivs,dstOf ops y.1 = some t ∧ y.1 ≠ i
    ·obtain ⟨y,hy,hyd,hyi⟩:=hex
     have h2:=List.all_eq_true.1 hcal.2.2 y.1 (fst_in y hy)
     simp only [Bool.or_eq_true,beq_iff_eq,Bool.and_eq_true] at h2
     have hya : y.1 ∈ aft o:=by
      rcases h2 with h2 | ⟨_,h2 | h2⟩
      ·exact absurd h2 hyi
      ·have:=List.all_eq_true.1 h2 t ht
       simp [hyd] at this
      ·simpa using h2
     have hyL : y ∈ L:=by
      refine hL' y hy fun hyt=>?_
      rcases (hlisted.false' (hin y.1 (fst_in y hy)).2).1 (haft y.1 hya) with h | h
      ·exact (hin y.1 (fst_in y hy)).1 h
      ·exact h.2 hyt
     have hyp : y ∈ pre:=by
      rcases hpre y.1 hya with h | h
      ·exact absurd h (hin y.1 (fst_in y hy)).1
      ·obtain ⟨z,hz,e⟩:=List.mem_map.1 h
       rw [← same z (hpi z hz) y hy e]; exact hz
     rw [lk_mem hLap hyL hyd,lk_mem hpap hyp hyd]
    ·rw [lk_not (fun y hy hd=>?_),lk_not (fun y hy hd=>?_)]
     ·by_cases hyi : y.1 = i
      ·exact hipre (List.mem_map.2 ⟨y,hy,hyi⟩)
      ·exact hex ⟨y,hpi y hy,hd,hyi⟩
     ·by_cases hyi : y.1 = i
      ·exact (hL y hy).2 (by rw [hyi]; exact hit)
      ·exact hex ⟨y,(hL y hy).1,hd,hyi⟩
   obtain ⟨b1,b2,b3,b4,b5,b6⟩:=putAll_fields (ops:=ops) (s:=s) pre
   obtain ⟨c1,c2,c3,c4,c5,c6⟩:=putAll_fields (ops:=ops) (s:=s) L
   have hev:=hf s' (.of_eq (hlike.bx.trans (c4.trans b4.symm)) (hlike.vc.trans ((putAll_vc L).trans (putAll_vc pre).symm))) (hlike.n.trans (c2.trans b2.symm)) hreads (fun s2=>∃ s1,Like s1 s' ∧ s2 = s1.put o.dst v) (fun s1 h1=>⟨s1,h1,rfl⟩)
   rw [← hrd]
   refine op1_sound ho hR ?_ hev
   rintro m2 s2 a2 w2 ⟨s1,hs1,rfl⟩ hR2 hst2 hrd2 hds2
   rw [hrd]
   refine ih (L ++ [(i,v)]) (todo.erase i) _ m2 _ a2 w2 (by rw [List.length_erase_of_mem hit]; omega) (htn.erase i) (fun j hj=>htl j (List.mem_of_mem_erase hj)) ?_ ?_ ?_ hR2 (hst.trans hst2) (hrd2.trans hrd) (hds2.trans hds) ?_ ?_
   ·intro x hx
    rcases List.mem_append.1 hx with h | h
    ·exact ⟨(hL x h).1,fun hc=>(hL x h).2 (List.mem_of_mem_erase hc)⟩
    ·simp only [List.mem_singleton] at h; subst h
     exact ⟨hivs,fun hc=>by rw [htn.mem_erase_iff] at hc; exact hc.1 rfl⟩
   ·intro x hx hxt
    by_cases hxi : x.1 = i
    ·exact List.mem_append_right _ (by rw [same x hx _ hivs hxi]; simp)
    ·exact List.mem_append_left _ (hL' x hx fun hc=>hxt ((htn.mem_erase_iff).2 ⟨hxi,hc⟩))
   ·rw [putAll_append]
    show Like _ ((putAll ops s L).put (dstOf ops i) v)
    rw [dstOf_eq ho]
    exact (hs1.trans hlike).put _ _
   ·intro j hj hjt q hq
    have hkeep : ∀ q,(q ∈ done ∨ (q ∈ l ∧ q ∉ todo)) → q ∈ done ∨ (q ∈ l ∧ q ∉ todo.erase i):=fun q h=>h.imp id fun h=>⟨h.1,fun hc=>h.2 (List.mem_of_mem_erase hc)⟩
    by_cases hji : j = i
    ·subst hji
     have hq' : q ∈ aft o:=by simpa [aftOf,ho] using hq
     refine hkeep q ((hlisted.false' ?_).1 (haft q hq'))
     have h1:=haft q hq'
     have : q < listed.size:=by
      rcases Nat.lt_or_ge q listed.size with h' | h'
      ·exact h'
      ·simp [Array.getElem?_eq_none h'] at h1
     rw [← hlisted.1]; exact this
    ·exact hkeep q (hclo j hj (fun hc=>hjt ((htn.mem_erase_iff).2 ⟨hji,hc⟩)) q hq)
   ·refine (hlisted.set i).congr fun j=>?_
    constructor
    ·rintro ((h | h) | h)
     ·exact .inl h
     ·exact .inr ⟨h.1,fun hc=>h.2 (List.mem_of_mem_erase hc)⟩
     ·subst h; exact .inr ⟨htl j hit,fun hc=>by rw [htn.mem_erase_iff] at hc; exact hc.1 rfl⟩
    ·rintro (h | h)
     ·exact .inl (.inl h)
     ·by_cases hji : j = i
      ·exact .inr hji
      ·exact .inl (.inr ⟨h.1,fun hc=>h.2 ((htn.mem_erase_iff).2 ⟨hji,hc⟩)⟩)
theorem any_setT {q : V → Bool} {t : Nat} {v : V} : ∀ {l : List (Nat × V)},(l.any fun x=>q x.2) = false → q v = false → ((setT t v l).any fun x=>q x.2) = false:=by
 intro l
 induction l with
 | nil=>intro _ hv; simp [setT,hv]
 | cons y l ih =>
  obtain ⟨a,b⟩:=y
  intro h hv
  simp only [List.any_cons,Bool.or_eq_false_iff] at h
  simp only [setT]
  split
  ·simp only [List.any_cons,Bool.or_eq_false_iff]; exact ⟨hv,h.2⟩
  ·simp only [List.any_cons,Bool.or_eq_false_iff]; exact ⟨h.1,ih h.2 hv⟩
theorem refs_put {f : Name} {d : Option Tmp} {v : V} (h : s.refs f = false) (hv : v.refs f = false) : (s.put d v).refs f = false:=by
 cases d with
 | none=>exact h
 | some d =>
  simp only [Sa.refs,Bool.or_eq_false_iff] at h ⊢
  exact ⟨⟨any_setT h.1.1 hv,h.1.2⟩,h.2⟩
theorem refs_putAll {f : Name} : ∀ {L : List (Nat × V)} {s : Sa},s.refs f = false → (∀ x ∈ L,x.2.refs f = false) → (putAll ops s L).refs f = false:=by
 intro L
 induction L with
 | nil=>intro s h _; exact h
 | cons x L ih=>intro s h hL; exact ih (refs_put h (hL x List.mem_cons_self)) (fun y hy=>hL y (List.mem_cons_of_mem _ hy))
def stP (ops : Array Oper) (s : Sa) (t : Nat) (f : Name) (z c : V) (ph : Nat) (L : List (Nat × V)) : Sa :=
 match ph with
 | 0=>putAll ops s L
 | 1=>{ (putAll ops s L) with bx:=(f,z) :: s.bx,ts:=setT t (.ptr f 0) (putAll ops s L).ts }
 | _=>{ (putAll ops s L) with bx:=(f,c) :: s.bx,ts:=setT t (.ptr f 0) (putAll ops s L).ts }
theorem stP_lk {t : Nat} {f : Name} {z c : V} {ph : Nat} {L : List (Nat × V)} {u : Nat} (hu : u ≠ t) : lkT u (stP ops s t f z c ph L).ts = lkT u (putAll ops s L).ts:=by
 match ph with
 | 0=>rfl
 | 1=>simp only [stP,lkT_setT',if_neg (Ne.symm hu)]
 | n + 2=>simp only [stP,lkT_setT',if_neg (Ne.symm hu)]
theorem stP_put {t : Nat} {f : Name} {z c : V} {ph : Nat} {L : List (Nat × V)} {q : Nat} {v : V} (hq : dstOf ops q ≠ some t) : Like ((stP ops s t f z c ph L).put (dstOf ops q) v) (stP ops s t f z c ph (L ++ [(q,v)])):=by
 have e : putAll ops s (L ++ [(q,v)]) = (putAll ops s L).put (dstOf ops q) v:=by rw [putAll_append]; rfl
 have eb:=(putAll_fields (ops:=ops) (s:=s) L).2.2.2.1
 cases hd : dstOf ops q with
 | none =>
  rw [hd] at e
  have e' : putAll ops s (L ++ [(q,v)]) = putAll ops s L:=e
  match ph with
  | 0=>simp only [stP,e']; exact Like.refl _
  | 1=>simp only [stP,e']; exact Like.refl _
  | n + 2=>simp only [stP,e']; exact Like.refl _
 | some d =>
  rw [hd] at e hq
  have hdt : d ≠ t:=fun h=>hq (by rw [h])
  match ph with
  | 0=>simp only [stP,e]; exact Like.refl _
  | 1 =>
   simp only [stP,e]
   refine ⟨rfl,rfl,rfl,rfl,rfl,rfl,fun u=>?_,rfl⟩
   simp only [Sa.put,lkT_setT']
   split <;> split <;> simp_all
  | n + 2 =>
   simp only [stP,e]
   refine ⟨rfl,rfl,rfl,rfl,rfl,rfl,fun u=>?_,rfl⟩
   simp only [Sa.put,lkT_setT']
   split <;> split <;> simp_all
theorem fresh_sound {l done later : List Nat} {ivs : List (Nat × V)} {i j t x : Nat} {ty ty' : TypeId} {oi oj : Oper} {s1 : Sa} {KK : Sa → Prop} (hl : ivs.map Prod.fst = l) (hcalm : ∀ i ∈ l,calmOK ops l i = true) (hord : orderOK ops done l = true)
  (hi : ops[i]? = some oi) (hj : ops[j]? = some oj) (hid : oi.dst = some t) (hio : oi.op = .alloc ty) (hjo : oj.op = .store ty' (.tmp t) (.tmp x)) (hxt : x ≠ t) (hig : oi.guard = none) (hjg : oj.guard = none) (hjd : oj.dst = none)
  (hia : ∀ q ∈ aft oi,q ∈ done) (hja : ∀ q ∈ aft oj,q ∈ done ∨ q ∈ l ∨ q = i) (hij : i ∈ aft oj) (hls : ∀ q ∈ l,dstOf ops q ≠ some t ∧ t ∉ readsOf ops q ∧ (dstOf ops q = some x → q ∈ aft oj)) (hi1 : i ∉ done) (hj1 : j ∉ done) (hi2 : i ∉ l) (hj2 : j ∉ l) (hne : i ≠ j)
  (hlater : ∀ q ∈ later,okAft ops q (fun al=>al.any later.contains || (l ++ [i,j]).all al.contains) = true) (hfresh : ∀ q ∈ later,q ∉ done ∧ q ∉ l ∧ q ≠ i ∧ q ≠ j) (hcov : ∀ q < ops.size,q ∈ done ∨ q ∈ l ∨ q = i ∨ q = j ∨ q ∈ later)
  (hdone : ∀ q ∈ done,q < ops.size)
  (hfact : ∀ pre i v post,ivs = pre ++ (i,v) :: post → OpFact P p ops i v (putAll ops s pre)) (hs1 : Like s1 (putAll ops s ivs)) (href : s.refs (t :: p) = false) (hz : (tzero P ty).notNil = true) (hxn : (s1.get (.tmp x)).notNil = true)
  (hev : evOps P (sems P) p ops [oi] s1 fun s2=>evOps P (sems P) p ops [oj] s2 KK) {fuel : Nat} {ds : List Deferred}
  (hN : PartNext P ops Q n Mo m s ds sv w fuel (fun q=>q ∈ done ∨ q ∈ l ∨ q = i ∨ q = j) (fun s'=>∃ s3,Like s' s3 ∧ KK s3)) :
  ∀ (N ph : Nat) (L : List (Nat × V)) (todo : List Nat) (listed : Array Bool) (m' : Mp) (s' : Sa) (a' : Act) (w' : World),ph ≤ 2 → N = todo.length + (2 - ph) → todo.Nodup → (∀ j ∈ todo,j ∈ l) → (∀ x ∈ L,x ∈ ivs ∧ x.1 ∉ todo) → (∀ x ∈ ivs,x.1 ∉ todo → x ∈ L) →
   Like s' (stP ops s t (t :: p) (tzero P ty) (storeBox 0 (s1.get (.tmp x)) (tzero P ty)) ph L) → Rel Mo m' s' (a' :: sv) w' → Step m s w m' s' w' → rdOf m' s' = rdOf m s → a'.defers = ds →
   Listed ops listed (fun q=>q ∈ done ∨ (q ∈ l ∧ q ∉ todo) ∨ (q = i ∧ 1 ≤ ph) ∨ (q = j ∧ 2 ≤ ph)) →
   wpAnyIn (Wd (rdOf m s)) n P .any ops Q (fuel + N) listed a' w':=by
 obtain ⟨hnd,hin⟩:=orderOK_nodup hord
 have hndf : (ivs.map Prod.fst).Nodup:=by rw [hl]; exact hnd
 have fst_in : ∀ x ∈ ivs,x.1 ∈ l:=fun x hx=>by rw [← hl]; exact List.mem_map.2 ⟨x,hx,rfl⟩
 have same : ∀ x ∈ ivs,∀ y ∈ ivs,x.1 = y.1 → x = y:=by
  intro x hx y hy e
  obtain ⟨i,hi,rfl⟩:=List.getElem_of_mem hx
  obtain ⟨j,hj,rfl⟩:=List.getElem_of_mem hy
  have:=(List.getElem_inj (xs:=ivs.map Prod.fst) (h₀:=by simpa using hi) (h₁:=by simpa using hj) hndf).1 (by simpa using e)
  subst this; rfl
 have calm_inv : ∀ q ∈ l,∃ o,ops[q]? = some o ∧ o.dst.isSome = true ∧ ∀ r ∈ l,r = q ∨ (dstOf ops r ≠ o.dst ∧ ((∀ u ∈ opReads ops o,dstOf ops r ≠ some u) ∨ r ∈ aft o)):=by
  intro q hq
  have hc:=hcalm q hq
  unfold calmOK at hc
  split at hc
  ·rename_i o ho
   simp only [Bool.and_eq_true] at hc
   refine ⟨o,ho,hc.2.1,fun r hr=>?_⟩
   have:=List.all_eq_true.1 hc.2.2 r hr
   simp only [Bool.or_eq_true,beq_iff_eq,Bool.and_eq_true,bne_iff_ne] at this
   rcases this with h | ⟨h,h2⟩
   ·exact .inl h
   ·refine .inr ⟨h,h2.imp (fun h2 u hu=>?_) (fun h2=>by simpa using h2)⟩
    simpa using List.all_eq_true.1 h2 u hu
  ·cases hc
 have apart : Apart ops ivs:=by
  intro x hx y hy u h1 h2
  refine same x hx y hy ?_
  obtain ⟨o,ho,_,hc⟩:=calm_inv x.1 (fst_in x hx)
  rcases hc y.1 (fst_in y hy) with h | ⟨h,_⟩
  ·exact h.symm
  ·exact absurd (by rw [h2,← dstOf_eq ho,h1]) h
 have hA:=hev
 simp only [evOps,hid,hig,evOp,hio,claim_notNil hz,Option.getD_some] at hA
 obtain ⟨hA0,hA1,hA2,hA3,hA4,hB⟩:=hA
 have hget : ∀ (σ : Sa) (v : V),(σ.put (some t) v).get (.tmp x) = σ.get (.tmp x):=fun σ v=>by
  simp only [Sa.put,Sa.get,lkT_setT',if_neg (Ne.symm hxt)]
 have hgt : ∀ (σ : Sa) (v : V),(σ.put (some t) v).get (.tmp t) = v:=fun σ v=>by
  simp only [Sa.put,Sa.get,lkT_setT',if_true]
 simp only [hjd,hjg,hjo,hgt,hget] at hB
 have hxn' : (({ s1 with bx:=(t :: p,tzero P ty) :: s1.bx } : Sa).get (.tmp x)).notNil = true:=hxn
 simp only [claim_notNil hxn'] at hB
 have hlk1 : lookN (t :: p) (({ s1 with bx:=(t :: p,tzero P ty) :: s1.bx } : Sa).put (some t) (.ptr (t :: p) 0)).bx = some (tzero P ty):=by simp [Sa.put,lookN]
 simp only [hlk1] at hB
 obtain ⟨-,hB1,hB2,hB3,hB4,hB5⟩:=hB
 have hv_refs : ∀ x ∈ ivs,x.2.refs (t :: p) = false:=by
  intro y hy
  obtain ⟨o,ho,hd,_⟩:=calm_inv y.1 (fst_in y hy)
  obtain ⟨d,hd⟩:=Option.isSome_iff_exists.1 hd
  have e1:=lk_mem (s:=s) apart hy ((dstOf_eq ho).trans hd)
  rw [← e1,← hs1.ts d]
  have h3:=hA3
  simp only [Sa.refs,Bool.or_eq_false_iff,List.any_eq_false] at h3
  exact look_mem (fun v=>v.refs (t :: p) = false) (by simp [V.refs]) _ (fun z hz=>Bool.eq_false_iff.2 (h3.1.1 z hz)) d
 have hsb : lookN (t :: p) s.bx = none:=by
  rw [hs1.bx,(putAll_fields (ops:=ops) (s:=s) ivs).2.2.2.1] at hA4; exact hA4
 have hsn : s1.n = s.n:=by rw [hs1.n,(putAll_fields (ops:=ops) (s:=s) ivs).2.1]
 intro N
 induction N with
 | zero =>
  intro ph L todo listed m' s' a' w' hph hlen _ _ hL hL' hlike hR hst hrd hds hlisted
  have h1 : todo = []:=List.eq_nil_of_length_eq_zero (by omega)
  have h2 : ph = 2:=by omega
  subst h1 h2
  refine hN m' s' a' w' listed ⟨_,?_,hB5⟩ hR hst hrd hds (hlisted.congr fun q=>by simp)
  refine hlike.trans ?_
  have hls:=like_sets (s:=s) apart (L:=L) fun x=>⟨fun hx=>(hL x hx).1,fun hx=>hL' x hx (by simp)⟩
  have hl2:=hls.trans hs1.symm
  simp only [stP,Sa.put]
  refine ⟨hl2.rd,hl2.n,hl2.sv,?_,hl2.lp,hl2.ow,fun u=>?_,hl2.vc⟩
  ·show (t :: p,_) :: s.bx = setN (t :: p) _ ((t :: p,tzero P ty) :: s1.bx)
   rw [hs1.bx,(putAll_fields (ops:=ops) (s:=s) ivs).2.2.2.1]
   simp [setN,Sa.get]
  ·simp only [lkT_setT',hl2.ts u]
 | succ N ih =>
  intro ph L todo listed m' s' a' w' hph hlen htn htl hL hL' hlike hR hst hrd hds hlisted
  have split_of : ∀ i ∈ todo,∃ pre v post o,ivs = pre ++ (i,v) :: post ∧ ops[i]? = some o ∧ (∀ j ∈ aft o,j ∈ done ∨ j ∈ pre.map Prod.fst) ∧ i ∉ done ∧ i ∉ pre.map Prod.fst:=by
   intro i hi
   have hil:=htl i hi
   rw [← hl] at hil
   obtain ⟨x,hx,rfl⟩:=List.mem_map.1 hil
   obtain ⟨pre,post,e⟩:=List.append_of_mem hx
   have hl2 : l = pre.map Prod.fst ++ x.1 :: post.map Prod.fst:=by rw [← hl,e]; simp
   rw [hl2] at hord
   obtain ⟨⟨o,ho,h1⟩,h2,h3⟩:=orderOK_split _ hord
   exact ⟨pre,x.2,post,o,e,ho,h1,h2,h3⟩
  have hlt' : ∀ q,listed.getD q false = true → q < ops.size:=fun q h1=>by
   have : q < listed.size:=by
    rcases Nat.lt_or_ge q listed.size with h' | h'
    ·exact h'
    ·simp [Array.getElem?_eq_none h'] at h1
   rw [← hlisted.1]; exact this
  have hlD : ∀ q,listed.getD q false = true → q ∈ done ∨ (q ∈ l ∧ q ∉ todo) ∨ (q = i ∧ 1 ≤ ph) ∨ (q = j ∧ 2 ≤ ph):=fun q h=>(hlisted.false' (hlt' q h)).1 h
  have hil : i < ops.size:=(Array.getElem?_eq_some_iff.1 hi).1
  have hjl : j < ops.size:=(Array.getElem?_eq_some_iff.1 hj).1
  obtain ⟨m2,hR2,hst2,hrd2⟩:=hlike.wk Mo m' _ w' hR
  have hst3:=hst.trans hst2
  have hrd3:=hrd2.trans hrd
  refine ⟨fun hr=>?_,fun r hr=>?_⟩
  ·exfalso
   cases htd : todo with
   | cons i0 tl =>
    have hi0 : i0 ∈ todo:=by rw [htd]; exact List.mem_cons_self
    obtain ⟨x0,hx0,e0⟩:=List.mem_map.1 (by rw [hl]; exact htl i0 hi0 : i0 ∈ ivs.map Prod.fst)
    obtain ⟨pre,y,post,e1,e2,e3⟩:=first_in ivs (fun x=>x.1 ∈ todo) ⟨x0,hx0,by rw [e0]; exact hi0⟩
    have hl2 : l = pre.map Prod.fst ++ y.1 :: post.map Prod.fst:=by rw [← hl,e1]; simp
    have hord2:=hord
    rw [hl2] at hord2
    obtain ⟨⟨o,ho,h1⟩,h2,h3⟩:=orderOK_split _ hord2
    have hyl:=htl y.1 e2
    have : y.1 ∈ Region.ready .any ops listed:=ready_intro hlisted ho (by
     rintro (h | h | h | h)
     ·exact h2 h
     ·exact h.2 e2
     ·exact hi2 (h.1 ▸ hyl)
     ·exact hj2 (h.1 ▸ hyl)) (fun j hj=>by
     rcases h1 j hj with h | h
     ·exact ⟨hdone j h,.inl h⟩
     ·obtain ⟨y',hy,rfl⟩:=List.mem_map.1 h
      have hyi : y' ∈ ivs:=by rw [e1]; exact List.mem_append_left _ hy
      exact ⟨(hin _ (fst_in y' hyi)).2,.inr (.inl ⟨fst_in y' hyi,e3 y' hy⟩)⟩)
    rw [hr] at this; cases this
   | nil =>
    subst htd
    by_cases hp0 : ph = 0
    ·have : i ∈ Region.ready .any ops listed:=ready_intro hlisted hi (by
      rintro (h | h | h | h)
      ·exact hi1 h
      ·exact hi2 h.1
      ·omega
      ·exact hne h.1) (fun q hq=>⟨hdone q (hia q hq),.inl (hia q hq)⟩)
     rw [hr] at this; cases this
    ·have hp1 : ph = 1:=by simp at hlen; omega
     have : j ∈ Region.ready .any ops listed:=ready_intro hlisted hj (by
      rintro (h | h | h | h)
      ·exact hj1 h
      ·exact hj2 h.1
      ·exact hne h.1.symm
      ·omega) (fun q hq=>by
      rcases hja q hq with h | h | h
      ·exact ⟨hdone q h,.inl h⟩
      ·exact ⟨(hin q h).2,.inr (.inl ⟨h,by simp⟩)⟩
      ·subst h; exact ⟨hil,.inr (.inr (.inl ⟨rfl,by omega⟩))⟩)
     rw [hr] at this; cases this
  ·obtain ⟨hlt,hnD,o,ho,haft⟩:=ready_inv hlisted hr
   have hcase : r ∈ todo ∨ (r = i ∧ ph = 0) ∨ (r = j ∧ ph = 1):=by
    rcases hcov r hlt with h | h | h | h | h
    ·exact absurd (.inl h) hnD
    ·exact .inl (Classical.byContradiction fun hc=>hnD (.inr (.inl ⟨h,hc⟩)))
    ·exact .inr (.inl ⟨h,Classical.byContradiction fun hc=>hnD (.inr (.inr (.inl ⟨h,by omega⟩)))⟩)
    ·refine .inr (.inr ⟨h,?_⟩)
     have h2 : ¬ 2 ≤ ph:=fun hc=>hnD (.inr (.inr (.inr ⟨h,hc⟩)))
     rw [h,hj] at ho; cases ho
     rcases hlD i (haft i hij) with h' | h' | h' | h'
     ·exact absurd h' hi1
     ·exact absurd h'.1 hi2
     ·omega
     ·exact absurd h'.1 hne
    ·exfalso
     obtain ⟨o',ho',hb⟩:=okAft_inv (hlater r h)
     rw [ho] at ho'; cases ho'
     simp only [Bool.or_eq_true] at hb
     rcases hb with hb | hb
     ·obtain ⟨q,hq,hql⟩:=List.any_eq_true.1 hb
      have hql' : q ∈ later:=by simpa using hql
      obtain ⟨f1,f2,f3,f4⟩:=hfresh q hql'
      rcases hlD q (haft q hq) with h' | h' | h' | h'
      ·exact f1 h'
      ·exact f2 h'.1
      ·exact f3 h'.1
      ·exact f4 h'.1
     ·have hall:=List.all_eq_true.1 hb
      have ha : ∀ q ∈ l ++ [i,j],q ∈ aft o:=fun q hq=>by simpa using hall q hq
      have hj9:=hlD j (haft j (ha j (by simp)))
      have hp2 : ph = 2:=by
       rcases hj9 with h' | h' | h' | h'
       ·exact absurd h' hj1
       ·exact absurd h'.1 hj2
       ·exact absurd h'.1.symm hne
       ·omega
      cases htd : todo with
      | nil=>rw [htd,hp2] at hlen; simp at hlen
      | cons q tl =>
       have hqt : q ∈ todo:=by rw [htd]; exact List.mem_cons_self
       have hql:=htl q hqt
       rcases hlD q (haft q (ha q (by simp [hql]))) with h' | h' | h' | h'
       ·exact (hin q hql).1 h'
       ·exact h'.2 hqt
       ·exact hi2 (h'.1 ▸ hql)
       ·exact hj2 (h'.1 ▸ hql)
   rcases hcase with hit | ⟨rfl,hp0⟩ | ⟨rfl,hp1⟩
   ·
    obtain ⟨pre,v,post,o',e1,ho',hpre,hnd',hipre⟩:=split_of r hit
    rw [ho] at ho'; cases ho'
    obtain ⟨o2,ho2,hf⟩:=hfact pre r v post e1
    rw [ho] at ho2; cases ho2
    have hivs : (r,v) ∈ ivs:=by rw [e1]; simp
    obtain ⟨o3,ho3,_,hcal⟩:=calm_inv r (htl r hit)
    rw [ho] at ho3; cases ho3
    have hpi : ∀ y ∈ pre,y ∈ ivs:=fun y hy=>by rw [e1]; exact List.mem_append_left _ hy
    obtain ⟨hrt,hrr,_⟩:=hls r (htl r hit)
    have hreads : ∀ u ∈ opReads ops o,lkT u (stP ops s t (t :: p) (tzero P ty) (storeBox 0 (s1.get (.tmp x)) (tzero P ty)) ph L).ts = lkT u (putAll ops s pre).ts:=by
     intro u hu
     have hut : u ≠ t:=fun e=>hrr (by rw [← e]; simp only [readsOf,ho]; exact hu)
     rw [stP_lk hut]
     have hpap : Apart ops pre:=fun x hx y hy=>apart x (hpi x hx) y (hpi y hy)
     have hLap : Apart ops L:=fun x hx y hy=>apart x (hL x hx).1 y (hL y hy).1
     by_cases hex : ∃ y ∈ ivs,dstOf ops y.1 = some u ∧ y.1 ≠ r
     ·obtain ⟨y,hy,hyd,hyi⟩:=hex
      have hya : y.1 ∈ aft o:=by
       rcases hcal y.1 (fst_in y hy) with h2 | ⟨_,h2 | h2⟩
       ·exact absurd h2 hyi
       ·exact absurd hyd (h2 u hu)
       ·exact h2
      have hyL : y ∈ L:=by
       refine hL' y hy fun hyt=>?_
       have hyl:=fst_in y hy
       rcases hlD y.1 (haft y.1 hya) with h | h | h | h
       ·exact (hin y.1 hyl).1 h
       ·exact h.2 hyt
       ·exact hi2 (h.1 ▸ hyl)
       ·exact hj2 (h.1 ▸ hyl)
      have hyp : y ∈ pre:=by
       rcases hpre y.1 hya with h | h
       ·exact absurd h (hin y.1 (fst_in y hy)).1
       ·obtain ⟨z,hz,e⟩:=List.mem_map.1 h
        rw [← same z (hpi z hz) y hy e]; exact hz
      rw [lk_mem hLap hyL hyd,lk_mem hpap hyp hyd]
     ·rw [lk_not (fun y hy hd=>?_),lk_not (fun y hy hd=>?_)]
      ·by_cases hyi : y.1 = r
       ·exact hipre (List.mem_map.2 ⟨y,hy,hyi⟩)
       ·exact hex ⟨y,hpi y hy,hd,hyi⟩
      ·by_cases hyi : y.1 = r
       ·exact (hL y hy).2 (by rw [hyi]; exact hit)
       ·exact hex ⟨y,(hL y hy).1,hd,hyi⟩
    obtain ⟨b1,b2,b3,b4,b5,b6⟩:=putAll_fields (ops:=ops) (s:=s) pre
    obtain ⟨c1,c2,c3,c4,c5,c6⟩:=putAll_fields (ops:=ops) (s:=s) L
    have hbe : BxExt (putAll ops s pre) (stP ops s t (t :: p) (tzero P ty) (storeBox 0 (s1.get (.tmp x)) (tzero P ty)) ph L):=by
     refine ⟨?_,fun nm c hc=>by
      rw [putAll_vc pre] at hc
      match ph with
      | 0=>exact (congrArg (lookN nm) (putAll_vc L)).trans hc
      | 1=>exact (congrArg (lookN nm) (putAll_vc L)).trans hc
      | n + 2=>exact (congrArg (lookN nm) (putAll_vc L)).trans hc⟩
     intro nm c hc
     rw [b4] at hc
     have hnf : t :: p ≠ nm:=fun e=>by rw [← e,hsb] at hc; cases hc
     match ph with
     | 0=>simp only [stP,c4]; exact hc
     | 1=>simp only [stP,lookN,if_neg hnf]; exact hc
     | n + 2=>simp only [stP,lookN,if_neg hnf]; exact hc
    have hn9 : (stP ops s t (t :: p) (tzero P ty) (storeBox 0 (s1.get (.tmp x)) (tzero P ty)) ph L).n = (putAll ops s pre).n:=by
     rw [b2]
     match ph with
     | 0=>exact c2
     | 1=>exact c2
     | n + 2=>exact c2
    have hev:=hf _ hbe hn9 hreads (fun s2=>∃ s1',Like s1' (stP ops s t (t :: p) (tzero P ty) (storeBox 0 (s1.get (.tmp x)) (tzero P ty)) ph L) ∧ s2 = s1'.put o.dst v) (fun s1 h1=>⟨s1,h1,rfl⟩)
    rw [← hrd3]
    refine op1_sound ho hR2 ?_ hev
    rintro m4 s4 a4 w4 ⟨s1',hs1',rfl⟩ hR4 hst4 hrd4 hds4
    rw [hrd3]
    refine ih ph (L ++ [(r,v)]) (todo.erase r) _ m4 _ a4 w4 hph (by rw [List.length_erase_of_mem hit]; have:=List.length_pos_of_mem hit; omega) (htn.erase r) (fun j hj=>htl j (List.mem_of_mem_erase hj)) ?_ ?_ ?_ hR4 (hst3.trans hst4) (hrd4.trans hrd3) (hds4.trans hds) ?_
    ·intro x hx
     rcases List.mem_append.1 hx with h | h
     ·exact ⟨(hL x h).1,fun hc=>(hL x h).2 (List.mem_of_mem_erase hc)⟩
     ·simp only [List.mem_singleton] at h; subst h
      exact ⟨hivs,fun hc=>by rw [htn.mem_erase_iff] at hc; exact hc.1 rfl⟩
    ·intro x hx hxt
     by_cases hxi : x.1 = r
     ·exact List.mem_append_right _ (by rw [same x hx _ hivs hxi]; simp)
     ·exact List.mem_append_left _ (hL' x hx fun hc=>hxt ((htn.mem_erase_iff).2 ⟨hxi,hc⟩))
    ·rw [← dstOf_eq ho]
     exact (hs1'.put _ _).trans (stP_put hrt)
    ·refine (hlisted.set r).congr fun q=>?_
     constructor
     ·rintro ((h | h | h | h) | h)
      ·exact .inl h
      ·exact .inr (.inl ⟨h.1,fun hc=>h.2 (List.mem_of_mem_erase hc)⟩)
      ·exact .inr (.inr (.inl h))
      ·exact .inr (.inr (.inr h))
      ·subst h; exact .inr (.inl ⟨htl q hit,fun hc=>by rw [htn.mem_erase_iff] at hc; exact hc.1 rfl⟩)
     ·rintro (h | h | h | h)
      ·exact .inl (.inl h)
      ·by_cases hji : q = r
       ·exact .inr hji
       ·exact .inl (.inr (.inl ⟨h.1,fun hc=>h.2 ((htn.mem_erase_iff).2 ⟨hji,hc⟩)⟩))
      ·exact .inl (.inr (.inr (.inl h)))
      ·exact .inl (.inr (.inr (.inr h)))
   ·
    subst hp0
    rw [hi] at ho; cases ho
    obtain ⟨c1,c2,c3,c4,c5,c6⟩:=putAll_fields (ops:=ops) (s:=s) L
    have hev9 : evOps P (sems P) p ops [oi] (putAll ops s L) (fun s2=>s2 = stP ops s t (t :: p) (tzero P ty) (storeBox 0 (s1.get (.tmp x)) (tzero P ty)) 1 L):=by
     simp only [evOps,hid,hig,evOp,hio,claim_notNil hz,Option.getD_some]
     refine ⟨by rw [c2,← hsn]; exact hA0,hA1,hA2,refs_putAll href (fun y hy=>hv_refs y (hL y hy).1),by rw [c4]; exact hsb,?_⟩
     simp only [stP,Sa.put,c4]
    rw [← hrd3]
    refine op1_sound hi hR2 ?_ hev9
    rintro m4 s4 a4 w4 rfl hR4 hst4 hrd4 hds4
    rw [hrd3]
    refine ih 1 L todo _ m4 _ a4 w4 (by omega) (by omega) htn htl hL hL' (Like.refl _) hR4 (hst3.trans hst4) (hrd4.trans hrd3) (hds4.trans hds) ?_
    refine (hlisted.set r).congr fun q=>?_
    constructor
    ·rintro ((h | h | h | h) | h)
     ·exact .inl h
     ·exact .inr (.inl h)
     ·omega
     ·omega
     ·exact .inr (.inr (.inl ⟨h,by omega⟩))
    ·rintro (h | h | h | h)
     ·exact .inl (.inl h)
     ·exact .inl (.inr (.inl h))
     ·exact .inr h.1
     ·omega
   ·
    subst hp1
    rw [hj] at ho; cases ho
    obtain ⟨c1,c2,c3,c4,c5,c6⟩:=putAll_fields (ops:=ops) (s:=s) L
    have hLap : Apart ops L:=fun x hx y hy=>apart x (hL x hx).1 y (hL y hy).1
    have hxv : lkT x (putAll ops s L).ts = s1.get (.tmp x):=by
     show _ = lkT x s1.ts
     rw [hs1.ts x]
     by_cases hex : ∃ y ∈ ivs,dstOf ops y.1 = some x
     ·obtain ⟨y,hy,hyd⟩:=hex
      have hyl:=fst_in y hy
      have hyL : y ∈ L:=by
       refine hL' y hy fun hyt=>?_
       rcases hlD y.1 (haft y.1 ((hls y.1 hyl).2.2 hyd)) with h | h | h | h
       ·exact (hin y.1 hyl).1 h
       ·exact h.2 hyt
       ·exact hi2 (h.1 ▸ hyl)
       ·exact hj2 (h.1 ▸ hyl)
      rw [lk_mem hLap hyL hyd,lk_mem apart hy hyd]
     ·rw [lk_not (fun y hy hd=>hex ⟨y,(hL y hy).1,hd⟩),lk_not (fun y hy hd=>hex ⟨y,hy,hd⟩)]
    have hev9 : evOps P (sems P) p ops [oj] (stP ops s t (t :: p) (tzero P ty) (storeBox 0 (s1.get (.tmp x)) (tzero P ty)) 1 L) (fun s2=>s2 = stP ops s t (t :: p) (tzero P ty) (storeBox 0 (s1.get (.tmp x)) (tzero P ty)) 2 L):=by
     have g1 : (stP ops s t (t :: p) (tzero P ty) (storeBox 0 (s1.get (.tmp x)) (tzero P ty)) 1 L).get (.tmp t) = .ptr (t :: p) 0:=by simp only [stP,Sa.get,lkT_setT',if_true]
     have g2 : (stP ops s t (t :: p) (tzero P ty) (storeBox 0 (s1.get (.tmp x)) (tzero P ty)) 1 L).get (.tmp x) = s1.get (.tmp x):=by
      rw [← hxv]; exact stP_lk hxt
     have g3 : lookN (t :: p) (stP ops s t (t :: p) (tzero P ty) (storeBox 0 (s1.get (.tmp x)) (tzero P ty)) 1 L).bx = some (tzero P ty):=by simp [stP,lookN]
     simp only [evOps,hjd,hjg,evOp,hjo,g1,g2,g3,claim_notNil hxn]
     refine ⟨trivial,hB1,hB2,hB3,hB4,?_⟩
     simp only [stP,Sa.put,setN,if_true]
    rw [← hrd3]
    refine op1_sound hj hR2 ?_ hev9
    rintro m4 s4 a4 w4 rfl hR4 hst4 hrd4 hds4
    rw [hrd3]
    refine ih 2 L todo _ m4 _ a4 w4 (by omega) (by omega) htn htl hL hL' (Like.refl _) hR4 (hst3.trans hst4) (hrd4.trans hrd3) (hds4.trans hds) ?_
    refine (hlisted.set r).congr fun q=>?_
    constructor
    ·rintro ((h | h | h | h) | h)
     ·exact .inl h
     ·exact .inr (.inl h)
     ·exact .inr (.inr (.inl ⟨h.1,by omega⟩))
     ·exact .inr (.inr (.inr ⟨h.1,by omega⟩))
     ·exact .inr (.inr (.inr ⟨h,by omega⟩))
    ·rintro (h | h | h | h)
     ·exact .inl (.inl h)
     ·exact .inl (.inr (.inl h))
     ·exact .inl (.inr (.inr (.inl ⟨h.1,by omega⟩)))
     ·exact .inr h.1
theorem strip_put {f : Name} {d : Option Tmp} {v : V} (h : s.strip f = s) (hv : v.strip f = v) : (s.put d v).strip f = s.put d v:=by
 cases d with
 | none=>exact h
 | some d =>
  have h1 : mapT (V.strip f) s.ts = s.ts:=congrArg Sa.ts h
  have e : ∀ l : List (Nat × V),mapT (V.strip f) l = l → mapT (V.strip f) (setT d v l) = setT d v l:=by
   intro l
   induction l with
   | nil=>intro _; simp [setT,mapT,hv]
   | cons x l ih =>
    obtain ⟨a,b⟩:=x
    intro hl
    simp only [mapT,List.map_cons,List.cons.injEq,Prod.mk.injEq,true_and] at hl
    simp only [setT]
    split
    ·simp only [mapT,List.map_cons,hv]; exact congrArg _ hl.2
    ·simp only [mapT,List.map_cons,hl.1]; exact congrArg _ (ih hl.2)
  have h2:=e _ h1
  show ({ s.strip f with ts:=mapT (V.strip f) (setT d v s.ts) } : Sa) = _
  rw [h2,h]; rfl
theorem strip_putAll {f : Name} : ∀ {L : List (Nat × V)} {s : Sa},s.strip f = s → (∀ x ∈ L,x.2.strip f = x.2) → (putAll ops s L).strip f = putAll ops s L:=by
 intro L
 induction L with
 | nil=>intro s h _; exact h
 | cons x L ih=>intro s h hL; exact ih (strip_put h (hL x List.mem_cons_self)) (fun y hy=>hL y (List.mem_cons_of_mem _ hy))
theorem strip_lk {f : Name} {u : Nat} (h : s.strip f = s) : (lkT u s.ts).strip f = lkT u s.ts:=by
 have h1 : mapT (V.strip f) s.ts = s.ts:=congrArg Sa.ts h
 have h2:=look_mapT (V.strip f) (by simp [V.strip]) u s.ts
 rw [h1] at h2; exact h2.symm
theorem strip_vc {f : Name} (h : s.strip f = s) : lookN f s.vc = none:=by
 have h1 : s.vc.filter (fun x=>x.1 != f) = s.vc:=congrArg Sa.vc h
 rw [← h1,lookN_filter (q:=fun j=>j != f)]; simp
theorem vturn_made {f : Name} {sz : Nat} {xs : List D} (h : s.strip f = s) : s.vturn f sz xs = s.made f sz xs:=by
 unfold Sa.vturn Sa.made; rw [h]
def stM (ops : Array Oper) (s : Sa) (t : Nat) (f : Name) (sz : Nat) (xs : List D) (ph : Nat) (L : List (Nat × V)) : Sa :=
 match ph with
 | 0=>putAll ops s L
 | _=>{ (putAll ops s L) with ow:=f :: s.ow,vc:=(f,(sz,xs)) :: s.vc,ts:=setT t (.vsl f) (putAll ops s L).ts }
theorem stM_lk {t : Nat} {f : Name} {sz : Nat} {xs : List D} {ph : Nat} {L : List (Nat × V)} {u : Nat} (hu : u ≠ t) : lkT u (stM ops s t f sz xs ph L).ts = lkT u (putAll ops s L).ts:=by
 match ph with
 | 0=>rfl
 | n + 1=>simp only [stM,lkT_setT',if_neg (Ne.symm hu)]
theorem stM_put {t : Nat} {f : Name} {sz : Nat} {xs : List D} {ph : Nat} {L : List (Nat × V)} {q : Nat} {v : V} (hq : dstOf ops q ≠ some t) : Like ((stM ops s t f sz xs ph L).put (dstOf ops q) v) (stM ops s t f sz xs ph (L ++ [(q,v)])):=by
 have e : putAll ops s (L ++ [(q,v)]) = (putAll ops s L).put (dstOf ops q) v:=by rw [putAll_append]; rfl
 cases hd : dstOf ops q with
 | none =>
  rw [hd] at e
  have e' : putAll ops s (L ++ [(q,v)]) = putAll ops s L:=e
  match ph with
  | 0=>simp only [stM,e']; exact Like.refl _
  | n + 1=>simp only [stM,e']; exact Like.refl _
 | some d =>
  rw [hd] at e hq
  have hdt : d ≠ t:=fun h=>hq (by rw [h])
  match ph with
  | 0=>simp only [stM,e]; exact Like.refl _
  | n + 1 =>
   simp only [stM,e]
   refine ⟨rfl,rfl,rfl,rfl,rfl,rfl,fun u=>?_,rfl⟩
   simp only [Sa.put,lkT_setT']
   split <;> split <;> simp_all
theorem make_sound {l done later : List Nat} {ivs : List (Nat × V)} {j t : Nat} {oj : Oper} {fv : Operand} {as : List Operand} {g : FuncId} {ds xs : List D} {sz : Nat} {s1 : Sa} (hl : ivs.map Prod.fst = l) (hcalm : ∀ i ∈ l,calmOK ops l i = true) (hord : orderOK ops done l = true)
  (hj : ops[j]? = some oj) (hco : callOf oj = some (t,fv,as))
  (hja : ∀ q ∈ aft oj,q ∈ done ∨ q ∈ l) (hls : ∀ q ∈ l,dstOf ops q ≠ some t ∧ t ∉ readsOf ops q ∧ ((∀ u ∈ readsOf ops j,dstOf ops q ≠ some u) ∨ q ∈ aft oj)) (hj1 : j ∉ done) (hj2 : j ∉ l)
  (hlater : ∀ q ∈ later,okAft ops q (fun al=>al.any later.contains || (l ++ [j]).all (need ops (j :: l.reverse) al).contains) = true) (hfresh : ∀ q ∈ later,q ∉ done ∧ q ∉ l ∧ q ≠ j) (hcov : ∀ q < ops.size,q ∈ done ∨ q ∈ l ∨ q = j ∨ q ∈ later)
  (hdone : ∀ q ∈ done,q < ops.size)
  (hfact : ∀ pre i v post,ivs = pre ++ (i,v) :: post → OpFact P p ops i v (putAll ops s pre)) (hs1 : Like s1 (putAll ops s ivs)) (hst0 : s.strip (t :: p) = s) (hst1 : s1.strip (t :: p) = s1) (htn0 : t < s1.n)
  (hfv : s1.get fv = .d (.v (.func (.func g) #[] #[]))) (hcal : callable P g = true) (hds : toDs V.toD (as.map s1.get) = some ds) (hmk : MakeOK P g ds sz xs) {fuel : Nat} {dd : List Deferred}
  (hN : PartNext P ops Q n Mo m s dd sv w fuel (fun q=>q ∈ done ∨ q ∈ l ∨ q = j) (fun s'=>Like s' ((s1.made (t :: p) sz xs).put (some t) (.vsl (t :: p))))) :
  ∀ (N ph : Nat) (L : List (Nat × V)) (todo : List Nat) (listed : Array Bool) (m' : Mp) (s' : Sa) (a' : Act) (w' : World),ph ≤ 1 → N = todo.length + (1 - ph) → todo.Nodup → (∀ j ∈ todo,j ∈ l) → (∀ x ∈ L,x ∈ ivs ∧ x.1 ∉ todo) → (∀ x ∈ ivs,x.1 ∉ todo → x ∈ L) →
   Like s' (stM ops s t (t :: p) sz xs ph L) → Rel Mo m' s' (a' :: sv) w' → Step m s w m' s' w' → rdOf m' s' = rdOf m s → a'.defers = dd →
   (∀ q,((q ∈ l ∧ q ∉ todo) ∨ (q = j ∧ 1 ≤ ph)) → ∀ x ∈ aftOf ops q,x ∈ done ∨ (x ∈ l ∧ x ∉ todo) ∨ (x = j ∧ 1 ≤ ph)) → Listed ops listed (fun q=>q ∈ done ∨ (q ∈ l ∧ q ∉ todo) ∨ (q = j ∧ 1 ≤ ph)) →
   wpAnyIn (Wd (rdOf m s)) n P .any ops Q (fuel + N) listed a' w':=by
 obtain ⟨hjd,hjg,cl,hjo,hcl,has⟩:=callOf_inv hco
 obtain ⟨hnd,hin⟩:=orderOK_nodup hord
 have hndf : (ivs.map Prod.fst).Nodup:=by rw [hl]; exact hnd
 have fst_in : ∀ x ∈ ivs,x.1 ∈ l:=fun x hx=>by rw [← hl]; exact List.mem_map.2 ⟨x,hx,rfl⟩
 have same : ∀ x ∈ ivs,∀ y ∈ ivs,x.1 = y.1 → x = y:=by
  intro x hx y hy e
  obtain ⟨i,hi,rfl⟩:=List.getElem_of_mem hx
  obtain ⟨j,hj,rfl⟩:=List.getElem_of_mem hy
  have:=(List.getElem_inj (xs:=ivs.map Prod.fst) (h₀:=by simpa using hi) (h₁:=by simpa using hj) hndf).1 (by simpa using e)
  subst this; rfl
 have calm_inv : ∀ q ∈ l,∃ o,ops[q]? = some o ∧ o.dst.isSome = true ∧ ∀ r ∈ l,r = q ∨ (dstOf ops r ≠ o.dst ∧ ((∀ u ∈ opReads ops o,dstOf ops r ≠ some u) ∨ r ∈ aft o)):=by
  intro q hq
  have hc:=hcalm q hq
  unfold calmOK at hc
  split at hc
  ·rename_i o ho
   simp only [Bool.and_eq_true] at hc
   refine ⟨o,ho,hc.2.1,fun r hr=>?_⟩
   have:=List.all_eq_true.1 hc.2.2 r hr
   simp only [Bool.or_eq_true,beq_iff_eq,Bool.and_eq_true,bne_iff_ne] at this
   rcases this with h | ⟨h,h2⟩
   ·exact .inl h
   ·refine .inr ⟨h,h2.imp (fun h2 u hu=>?_) (fun h2=>by simpa using h2)⟩
    simpa using List.all_eq_true.1 h2 u hu
  ·cases hc
 have apart : Apart ops ivs:=by
  intro x hx y hy u h1 h2
  refine same x hx y hy ?_
  obtain ⟨o,ho,_,hc⟩:=calm_inv x.1 (fst_in x hx)
  rcases hc y.1 (fst_in y hy) with h | ⟨h,_⟩
  ·exact h.symm
  ·exact absurd (by rw [h2,← dstOf_eq ho,h1]) h
 have hv_strip : ∀ x ∈ ivs,x.2.strip (t :: p) = x.2:=by
  intro y hy
  obtain ⟨o,ho,hd,_⟩:=calm_inv y.1 (fst_in y hy)
  obtain ⟨d,hd⟩:=Option.isSome_iff_exists.1 hd
  have e1:=lk_mem (s:=s) apart hy ((dstOf_eq ho).trans hd)
  rw [← e1,← hs1.ts d]
  exact strip_lk hst1
 have hvn : lookN (t :: p) s.vc = none:=strip_vc hst0
 have hsn : s1.n = s.n:=by rw [hs1.n,(putAll_fields (ops:=ops) (s:=s) ivs).2.1]
 intro N
 induction N with
 | zero =>
  intro ph L todo listed m' s' a' w' hph hlen _ _ hL hL' hlike hR hst hrd hdd hclo hlisted
  have h1 : todo = []:=List.eq_nil_of_length_eq_zero (by omega)
  have h2 : ph = 1:=by omega
  subst h1 h2
  refine hN m' s' a' w' listed ?_ hR hst hrd hdd (hlisted.congr fun q=>by simp)
  refine hlike.trans ?_
  have hls:=like_sets (s:=s) apart (L:=L) fun x=>⟨fun hx=>(hL x hx).1,fun hx=>hL' x hx (by simp)⟩
  have hl2:=hls.trans hs1.symm
  have e1:=(putAll_fields (ops:=ops) (s:=s) ivs)
  simp only [stM,Sa.put,Sa.made]
  refine ⟨hl2.rd,hl2.n,hl2.sv,hl2.bx,hl2.lp,?_,fun u=>?_,?_⟩
  ·show (t :: p) :: s.ow = (t :: p) :: s1.ow
   rw [hs1.ow,e1.2.2.2.2.2]
  ·simp only [lkT_setT',hl2.ts u]
  ·show (t :: p,(sz,xs)) :: s.vc = (t :: p,(sz,xs)) :: s1.vc
   rw [hs1.vc,putAll_vc ivs]
 | succ N ih =>
  intro ph L todo listed m' s' a' w' hph hlen htn htl hL hL' hlike hR hst hrd hdd hclo hlisted
  have split_of : ∀ i ∈ todo,∃ pre v post o,ivs = pre ++ (i,v) :: post ∧ ops[i]? = some o ∧ (∀ j ∈ aft o,j ∈ done ∨ j ∈ pre.map Prod.fst) ∧ i ∉ done ∧ i ∉ pre.map Prod.fst:=by
   intro i hi
   have hil:=htl i hi
   rw [← hl] at hil
   obtain ⟨x,hx,rfl⟩:=List.mem_map.1 hil
   obtain ⟨pre,post,e⟩:=List.append_of_mem hx
   have hl2 : l = pre.map Prod.fst ++ x.1 :: post.map Prod.fst:=by rw [← hl,e]; simp
   rw [hl2] at hord
   obtain ⟨⟨o,ho,h1⟩,h2,h3⟩:=orderOK_split _ hord
   exact ⟨pre,x.2,post,o,e,ho,h1,h2,h3⟩
  have hlt' : ∀ q,listed.getD q false = true → q < ops.size:=fun q h1=>by
   have : q < listed.size:=by
    rcases Nat.lt_or_ge q listed.size with h' | h'
    ·exact h'
    ·simp [Array.getElem?_eq_none h'] at h1
   rw [← hlisted.1]; exact this
  have hlD : ∀ q,listed.getD q false = true → q ∈ done ∨ (q ∈ l ∧ q ∉ todo) ∨ (q = j ∧ 1 ≤ ph):=fun q h=>(hlisted.false' (hlt' q h)).1 h
  have hjl : j < ops.size:=(Array.getElem?_eq_some_iff.1 hj).1
  obtain ⟨m2,hR2,hst2,hrd2⟩:=hlike.wk Mo m' _ w' hR
  have hst3:=hst.trans hst2
  have hrd3:=hrd2.trans hrd
  refine ⟨fun hr=>?_,fun r hr=>?_⟩
  ·exfalso
   cases htd : todo with
   | cons i0 tl =>
    have hi0 : i0 ∈ todo:=by rw [htd]; exact List.mem_cons_self
    obtain ⟨x0,hx0,e0⟩:=List.mem_map.1 (by rw [hl]; exact htl i0 hi0 : i0 ∈ ivs.map Prod.fst)
    obtain ⟨pre,y,post,e1,e2,e3⟩:=first_in ivs (fun x=>x.1 ∈ todo) ⟨x0,hx0,by rw [e0]; exact hi0⟩
    have hl2 : l = pre.map Prod.fst ++ y.1 :: post.map Prod.fst:=by rw [← hl,e1]; simp
    have hord2:=hord
    rw [hl2] at hord2
    obtain ⟨⟨o,ho,h1⟩,h2,h3⟩:=orderOK_split _ hord2
    have hyl:=htl y.1 e2
    have : y.1 ∈ Region.ready .any ops listed:=ready_intro hlisted ho (by
     rintro (h | h | h)
     ·exact h2 h
     ·exact h.2 e2
     ·exact hj2 (h.1 ▸ hyl)) (fun j hj=>by
     rcases h1 j hj with h | h
     ·exact ⟨hdone j h,.inl h⟩
     ·obtain ⟨y',hy,rfl⟩:=List.mem_map.1 h
      have hyi : y' ∈ ivs:=by rw [e1]; exact List.mem_append_left _ hy
      exact ⟨(hin _ (fst_in y' hyi)).2,.inr (.inl ⟨fst_in y' hyi,e3 y' hy⟩)⟩)
    rw [hr] at this; cases this
   | nil =>
    subst htd
    have hp0 : ph = 0:=by simp at hlen; omega
    have : j ∈ Region.ready .any ops listed:=ready_intro hlisted hj (by
     rintro (h | h | h)
     ·exact hj1 h
     ·exact hj2 h.1
     ·omega) (fun q hq=>by
     rcases hja q hq with h | h
     ·exact ⟨hdone q h,.inl h⟩
     ·exact ⟨(hin q h).2,.inr (.inl ⟨h,by simp⟩)⟩)
    rw [hr] at this; cases this
  ·obtain ⟨hlt,hnD,o,ho,haft⟩:=ready_inv hlisted hr
   have hcase : r ∈ todo ∨ (r = j ∧ ph = 0):=by
    rcases hcov r hlt with h | h | h | h
    ·exact absurd (.inl h) hnD
    ·exact .inl (Classical.byContradiction fun hc=>hnD (.inr (.inl ⟨h,hc⟩)))
    ·exact .inr ⟨h,Classical.byContradiction fun hc=>hnD (.inr (.inr ⟨h,by omega⟩))⟩
    ·exfalso
     obtain ⟨o',ho',hb⟩:=okAft_inv (hlater r h)
     rw [ho] at ho'; cases ho'
     simp only [Bool.or_eq_true] at hb
     rcases hb with hb | hb
     ·obtain ⟨q,hq,hql⟩:=List.any_eq_true.1 hb
      have hql' : q ∈ later:=by simpa using hql
      obtain ⟨f1,f2,f3⟩:=hfresh q hql'
      rcases hlD q (haft q hq) with h' | h' | h'
      ·exact f1 h'
      ·exact f2 h'.1
      ·exact f3 h'.1
     ·have hall:=List.all_eq_true.1 hb
      have hnd9:=need_all (ops:=ops) (q:=fun q=>q ∈ done ∨ (q ∈ l ∧ q ∉ todo) ∨ (q = j ∧ 1 ≤ ph)) (l:=j :: l.reverse) (S:=aft o) (fun q hq=>hlD q (haft q hq)) (fun q hq hqq x hx=>by
       have hql : q = j ∨ q ∈ l:=by simpa using hq
       rcases hqq with hqq | hqq
       ·rcases hql with e | e
        ·exact absurd (e ▸ hqq) hj1
        ·exact absurd hqq (hin q e).1
       ·exact hclo q hqq x hx)
      have ha : ∀ q ∈ l ++ [j],q ∈ done ∨ (q ∈ l ∧ q ∉ todo) ∨ (q = j ∧ 1 ≤ ph):=fun q hq=>hnd9 q (by simpa using hall q hq)
      have hj9:=ha j (by simp)
      have hp2 : ph = 1:=by
       rcases hj9 with h' | h' | h'
       ·exact absurd h' hj1
       ·exact absurd h'.1 hj2
       ·omega
      cases htd : todo with
      | nil=>rw [htd,hp2] at hlen; simp at hlen
      | cons q tl =>
       have hqt : q ∈ todo:=by rw [htd]; exact List.mem_cons_self
       have hql:=htl q hqt
       rcases ha q (by simp [hql]) with h' | h' | h'
       ·exact (hin q hql).1 h'
       ·exact h'.2 hqt
       ·exact hj2 (h'.1 ▸ hql)
   rcases hcase with hit | ⟨rfl,hp0⟩
   ·
    obtain ⟨pre,v,post,o',e1,ho',hpre,hnd',hipre⟩:=split_of r hit
    rw [ho] at ho'; cases ho'
    obtain ⟨o2,ho2,hf⟩:=hfact pre r v post e1
    rw [ho] at ho2; cases ho2
    have hivs : (r,v) ∈ ivs:=by rw [e1]; simp
    obtain ⟨o3,ho3,_,hcal⟩:=calm_inv r (htl r hit)
    rw [ho] at ho3; cases ho3
    have hpi : ∀ y ∈ pre,y ∈ ivs:=fun y hy=>by rw [e1]; exact List.mem_append_left _ hy
    obtain ⟨hrt,hrr,_⟩:=hls r (htl r hit)
    have hreads : ∀ u ∈ opReads ops o,lkT u (stM ops s t (t :: p) sz xs ph L).ts = lkT u (putAll ops s pre).ts:=by
     intro u hu
     have hut : u ≠ t:=fun e=>hrr (by rw [← e]; simp only [readsOf,ho]; exact hu)
     rw [stM_lk hut]
     have hpap : Apart ops pre:=fun x hx y hy=>apart x (hpi x hx) y (hpi y hy)
     have hLap : Apart ops L:=fun x hx y hy=>apart x (hL x hx).1 y (hL y hy).1
     by_cases hex : ∃ y ∈ ivs,dstOf ops y.1 = some u ∧ y.1 ≠ r
     ·obtain ⟨y,hy,hyd,hyi⟩:=hex
      have hya : y.1 ∈ aft o:=by
       rcases hcal y.1 (fst_in y hy) with h2 | ⟨_,h2 | h2⟩
       ·exact absurd h2 hyi
       ·exact absurd hyd (h2 u hu)
       ·exact h2
      have hyL : y ∈ L:=by
       refine hL' y hy fun hyt=>?_
       have hyl:=fst_in y hy
       rcases hlD y.1 (haft y.1 hya) with h | h | h
       ·exact (hin y.1 hyl).1 h
       ·exact h.2 hyt
       ·exact hj2 (h.1 ▸ hyl)
      have hyp : y ∈ pre:=by
       rcases hpre y.1 hya with h | h
       ·exact absurd h (hin y.1 (fst_in y hy)).1
       ·obtain ⟨z,hz,e⟩:=List.mem_map.1 h
        rw [← same z (hpi z hz) y hy e]; exact hz
      rw [lk_mem hLap hyL hyd,lk_mem hpap hyp hyd]
     ·rw [lk_not (fun y hy hd=>?_),lk_not (fun y hy hd=>?_)]
      ·by_cases hyi : y.1 = r
       ·exact hipre (List.mem_map.2 ⟨y,hy,hyi⟩)
       ·exact hex ⟨y,hpi y hy,hd,hyi⟩
      ·by_cases hyi : y.1 = r
       ·exact (hL y hy).2 (by rw [hyi]; exact hit)
       ·exact hex ⟨y,(hL y hy).1,hd,hyi⟩
    obtain ⟨b1,b2,b3,b4,b5,b6⟩:=putAll_fields (ops:=ops) (s:=s) pre
    obtain ⟨c1,c2,c3,c4,c5,c6⟩:=putAll_fields (ops:=ops) (s:=s) L
    have hbe : BxExt (putAll ops s pre) (stM ops s t (t :: p) sz xs ph L):=by
     refine ⟨fun nm c hc=>?_,fun nm c hc=>?_⟩
     ·rw [b4] at hc
      match ph with
      | 0=>simp only [stM,c4]; exact hc
      | n + 1=>simp only [stM,c4]; exact hc
     ·rw [putAll_vc pre] at hc
      have hnf : t :: p ≠ nm:=fun e=>by rw [← e,hvn] at hc; cases hc
      match ph with
      | 0=>exact (congrArg (lookN nm) (putAll_vc L)).trans hc
      | n + 1=>simp only [stM,lookN,if_neg hnf]; exact hc
    have hn9 : (stM ops s t (t :: p) sz xs ph L).n = (putAll ops s pre).n:=by
     rw [b2]
     match ph with
     | 0=>exact c2
     | n + 1=>exact c2
    have hev:=hf _ hbe hn9 hreads (fun s2=>∃ s1',Like s1' (stM ops s t (t :: p) sz xs ph L) ∧ s2 = s1'.put o.dst v) (fun s1 h1=>⟨s1,h1,rfl⟩)
    rw [← hrd3]
    refine op1_sound ho hR2 ?_ hev
    rintro m4 s4 a4 w4 ⟨s1',hs1',rfl⟩ hR4 hst4 hrd4 hds4
    rw [hrd3]
    refine ih ph (L ++ [(r,v)]) (todo.erase r) _ m4 _ a4 w4 hph (by rw [List.length_erase_of_mem hit]; have:=List.length_pos_of_mem hit; omega) (htn.erase r) (fun j hj=>htl j (List.mem_of_mem_erase hj)) ?_ ?_ ?_ hR4 (hst3.trans hst4) (hrd4.trans hrd3) (hds4.trans hdd) ?_ ?_
    ·intro x hx
     rcases List.mem_append.1 hx with h | h
     ·exact ⟨(hL x h).1,fun hc=>(hL x h).2 (List.mem_of_mem_erase hc)⟩
     ·simp only [List.mem_singleton] at h; subst h
      exact ⟨hivs,fun hc=>by rw [htn.mem_erase_iff] at hc; exact hc.1 rfl⟩
    ·intro x hx hxt
     by_cases hxi : x.1 = r
     ·exact List.mem_append_right _ (by rw [same x hx _ hivs hxi]; simp)
     ·exact List.mem_append_left _ (hL' x hx fun hc=>hxt ((htn.mem_erase_iff).2 ⟨hxi,hc⟩))
    ·rw [← dstOf_eq ho]
     exact (hs1'.put _ _).trans (stM_put hrt)
    ·have hkeep : ∀ x,(x ∈ done ∨ (x ∈ l ∧ x ∉ todo) ∨ (x = j ∧ 1 ≤ ph)) → x ∈ done ∨ (x ∈ l ∧ x ∉ todo.erase r) ∨ (x = j ∧ 1 ≤ ph):=fun x h=>h.imp id fun h=>h.imp (fun h=>⟨h.1,fun hc=>h.2 (List.mem_of_mem_erase hc)⟩) id
     intro q hq x hx
     by_cases hqr : q = r
     ·subst hqr
      have hx' : x ∈ aft o:=by simpa [aftOf,ho] using hx
      exact hkeep x (hlD x (haft x hx'))
     ·refine hkeep x (hclo q ?_ x hx)
      rcases hq with h | h
      ·exact .inl ⟨h.1,fun hc=>h.2 ((htn.mem_erase_iff).2 ⟨hqr,hc⟩)⟩
      ·exact .inr h
    ·refine (hlisted.set r).congr fun q=>?_
     constructor
     ·rintro ((h | h | h) | h)
      ·exact .inl h
      ·exact .inr (.inl ⟨h.1,fun hc=>h.2 (List.mem_of_mem_erase hc)⟩)
      ·exact .inr (.inr h)
      ·subst h; exact .inr (.inl ⟨htl q hit,fun hc=>by rw [htn.mem_erase_iff] at hc; exact hc.1 rfl⟩)
     ·rintro (h | h | h)
      ·exact .inl (.inl h)
      ·by_cases hji : q = r
       ·exact .inr hji
       ·exact .inl (.inr (.inl ⟨h.1,fun hc=>h.2 ((htn.mem_erase_iff).2 ⟨hji,hc⟩)⟩))
      ·exact .inl (.inr (.inr h))
   ·
    subst hp0
    rw [hj] at ho; cases ho
    obtain ⟨c1,c2,c3,c4,c5,c6⟩:=putAll_fields (ops:=ops) (s:=s) L
    have hLap : Apart ops L:=fun x hx y hy=>apart x (hL x hx).1 y (hL y hy).1
    have hreads : ∀ u ∈ opReads ops oj,lkT u (putAll ops s L).ts = lkT u s1.ts:=by
     intro u hu
     have hu' : u ∈ readsOf ops r:=by simp only [readsOf,hj]; exact hu
     rw [hs1.ts u]
     by_cases hex : ∃ y ∈ ivs,dstOf ops y.1 = some u
     ·obtain ⟨y,hy,hyd⟩:=hex
      have hyl:=fst_in y hy
      have hyL : y ∈ L:=by
       refine hL' y hy fun hyt=>?_
       have hya : y.1 ∈ aft oj:=by
        rcases (hls y.1 hyl).2.2 with h | h
        ·exact absurd hyd (h u hu')
        ·exact h
       rcases hlD y.1 (haft y.1 hya) with h | h | h
       ·exact (hin y.1 hyl).1 h
       ·exact h.2 hyt
       ·exact hj2 (h.1 ▸ hyl)
      rw [lk_mem hLap hyL hyd,lk_mem apart hy hyd]
     ·rw [lk_not (fun y hy hd=>hex ⟨y,(hL y hy).1,hd⟩),lk_not (fun y hy hd=>hex ⟨y,hy,hd⟩)]
    have hget:=reads_get (ops:=ops) (s:=s1) (s':=putAll ops s L) (o:=oj) hreads
    have hfv' : (putAll ops s L).get fv = .d (.v (.func (.func g) #[] #[])):=by rw [hget fv (by simp [hjo,Op.operands,Call.operands,hcl]),hfv]
    have hds' : toDs V.toD (cl.args.toList.map (putAll ops s L).get) = some ds:=by
     rw [← hds,← has]
     congr 1
     refine List.map_congr_left fun x hx=>hget x ?_
     simp [hjo,Op.operands,Call.operands,hcl]
     first | exact .inr hx | exact .inr (by simpa using hx) | simpa using hx
    have hstL : (putAll ops s L).strip (t :: p) = putAll ops s L:=strip_putAll hst0 (fun y hy=>hv_strip y (hL y hy).1)
    have hev9 : evOps P (sems P) p ops [oj] (putAll ops s L) (fun s2=>s2 = stM ops s t (t :: p) sz xs 1 L):=by
     simp only [evOps,hjd,hjg,evOp,hjo,hcl,hfv',Option.getD_some]
     refine ⟨by rw [c2,← hsn]; exact htn0,hcal,hmk [] _ _ (t :: p) _ hds' ?_⟩
     rw [vturn_made hstL]
     refine ⟨fun d hd=>?_,?_⟩
     ·cases hd
      show t < (putAll ops s L).n
      rw [c2,← hsn]; exact htn0
     ·simp only [stM,Sa.put,Sa.made,c6,putAll_vc L]
    rw [← hrd3]
    refine op1_sound hj hR2 ?_ hev9
    rintro m4 s4 a4 w4 rfl hR4 hst4 hrd4 hds4
    rw [hrd3]
    refine ih 1 L todo _ m4 _ a4 w4 (by omega) (by omega) htn htl hL hL' (Like.refl _) hR4 (hst3.trans hst4) (hrd4.trans hrd3) (hds4.trans hdd) (fun q hq x hx=>?_) ?_
    ·have hkeep : ∀ x,(x ∈ done ∨ (x ∈ l ∧ x ∉ todo) ∨ (x = r ∧ 1 ≤ 0)) → x ∈ done ∨ (x ∈ l ∧ x ∉ todo) ∨ (x = r ∧ 1 ≤ 1):=fun x h=>h.imp id fun h=>h.imp id fun h=>⟨h.1,by omega⟩
     rcases hq with h | h
     ·exact hkeep x (hclo q (.inl h) x hx)
     ·have hx' : x ∈ aft oj:=by rw [h.1] at hx; simpa [aftOf,hj] using hx
      exact hkeep x (hlD x (haft x hx'))
    refine (hlisted.set r).congr fun q=>?_
    constructor
    ·rintro ((h | h | h) | h)
     ·exact .inl h
     ·exact .inr (.inl h)
     ·omega
     ·exact .inr (.inr ⟨h,by omega⟩)
    ·rintro (h | h | h)
     ·exact .inl (.inl h)
     ·exact .inl (.inr (.inl h))
     ·exact .inr h.1
theorem plan_sound : ∀ (plan : List Seg) (done : List Nat) (listed : Array Bool) (m : Mp) (s : Sa) (a : Act) (w : World),planOK ops done plan = true → (∀ j ∈ done,j < ops.size) → Listed ops listed (· ∈ done) →
  Rel Mo m s (a :: sv) w → RegNext Mo m s a.defers sv w k Q → evPlan P p ops plan s k → wpAnyIn (Wd (rdOf m s)) n P .any ops Q (flat plan).length listed a w:=by
 intro plan
 induction plan with
 | nil =>
  intro done listed m s a w hp hdn hlisted hR hN h
  simp only [planOK,Bool.and_eq_true] at hp
  refine ⟨?_,hN m s a w h hR (Step.refl _ _ _) rfl rfl⟩
  refine List.eq_nil_iff_forall_not_mem.2 fun i hi=>?_
  obtain ⟨h1,h2,_⟩:=ready_inv hlisted hi
  exact h2 (by simpa using List.all_eq_true.1 hp.1 i (List.mem_range.2 h1))
 | cons x rest ih =>
  intro done listed m s a w hp hdn hlisted hR hN h
  cases x with
  | calm l =>
   have hfr:=planOK_fresh hp
   simp only [planOK,Bool.and_eq_true] at hp
   have hfr2:=planOK_fresh hp.2.2.2
   have hcalm : ∀ i ∈ l,calmOK ops l i = true:=List.all_eq_true.1 hp.1
   have hnd:=orderOK_nodup hp.2.1
   simp only [evPlan] at h
   obtain ⟨ivs,s1,h1,h2,h3,h4⟩:=evSeg_run l (fun i hi=>by
    have:=hcalm i hi
    unfold calmOK at this
    split at this
    ·rename_i o ho; simp only [Bool.and_eq_true] at this; exact ⟨o,ho,this.1⟩
    ·cases this) h
   have e : (flat (.calm l :: rest)).length = (flat rest).length + l.length:=by simp only [flat,Seg.idx,List.length_append]; omega
   rw [e]
   refine seg_sound (later:=flat rest) (done:=done) h1 hcalm hp.2.1 (List.all_eq_true.1 hp.2.2.1) (fun j hj=>?_) (fun j hj=>?_) hdn h4 ?_ l.length [] l listed m s a w rfl hnd.1 (fun j hj=>hj) (fun x hx=>by cases hx)
    (fun x hx hxl=>absurd (by rw [← h1]; exact List.mem_map.2 ⟨x,hx,rfl⟩) hxl) (Like.refl s) hR (Step.refl _ _ _) rfl rfl (fun j hj hjt=>absurd hj hjt) (hlisted.congr fun j=>?_)
   ·have:=hfr2.1 j hj
    simp only [List.mem_append,List.mem_reverse,not_or] at this
    exact ⟨this.2,this.1⟩
   ·rcases hfr.2.1 j hj with h | h
    ·exact .inl h
    ·simp only [flat,Seg.idx,List.mem_append] at h; exact .inr h
   ·intro m' s' a' w' listed' hlike hR' hst hrd hds hlisted'
    obtain ⟨m2,hR2,hst2,hrd2⟩:=(hlike.trans h2.symm).wk Mo m' _ w' hR'
    have:=ih (l.reverse ++ done) listed' m2 s1 a' w' hp.2.2.2 (fun j hj=>?_) (hlisted'.congr fun j=>?_) hR2 (by rw [hds]; exact hN.step (hst.trans hst2) (hrd2.trans hrd)) h3
    ·rw [hrd2,hrd] at this; exact this
    ·rcases List.mem_append.1 hj with h | h
     ·exact (hnd.2 j (by simpa using h)).2
     ·exact hdn j h
    ·simp only [List.mem_append,List.mem_reverse]; exact ⟨Or.symm,Or.symm⟩
   ·constructor
    ·exact .inl
    ·rintro (h | h)
     ·exact h
     ·exact absurd h.1 h.2
  | bar i =>
   have hfr:=planOK_fresh hp
   simp only [planOK,Bool.and_eq_true] at hp
   have hfr2:=planOK_fresh hp.2.2
   simp only [evPlan] at h
   obtain ⟨⟨o,ho,hao⟩,hid,_⟩:=orderOK_split [] (post:=[]) hp.1
   rw [ho] at h
   simp only at h
   have hilt : i < ops.size:=(Array.getElem?_eq_some_iff.1 ho).1
   have e : (flat (.bar i :: rest)).length = (flat rest).length + 1:=by simp [flat,Seg.idx]
   rw [e]
   refine ⟨fun hr=>?_,fun j hj=>?_⟩
   ·have : i ∈ Region.ready .any ops listed:=ready_intro hlisted ho hid (fun j hj=>by
     rcases hao j hj with h | h
     ·exact ⟨hdn j h,h⟩
     ·cases h)
    rw [hr] at this; cases this
   ·obtain ⟨hlt,hnD,o',ho',haft⟩:=ready_inv hlisted hj
    have hji : j = i:=by
     refine Classical.byContradiction fun hne=>?_
     have hjr : j ∈ flat rest:=by
      rcases hfr.2.1 j hlt with h | h
      ·exact absurd h hnD
      ·simp only [flat,Seg.idx,List.cons_append,List.nil_append,List.mem_cons] at h
       exact h.resolve_left hne
     obtain ⟨o2,ho2,hb⟩:=okAft_inv (List.all_eq_true.1 hp.2.1 j hjr)
     rw [ho'] at ho2; cases ho2
     obtain ⟨q,hq,hqi⟩:=List.any_eq_true.1 hb
     have hqi' : q = i ∨ q ∈ flat rest:=by simpa using hqi
     have h1:=haft q hq
     have hqs : q < ops.size:=by
      have : q < listed.size:=by
       rcases Nat.lt_or_ge q listed.size with h' | h'
       ·exact h'
       ·simp [Array.getElem?_eq_none h'] at h1
      rw [← hlisted.1]; exact this
     have h2:=(hlisted.false' hqs).1 h1
     rcases hqi' with h3 | h3
     ·subst h3; exact hid h2
     ·exact hfr2.1 q h3 (List.mem_cons_of_mem _ h2)
    subst hji
    refine op1_sound ho hR ?_ h
    intro m' s' a' w' hk hR' hst hrd hds
    have:=ih (j :: done) (listed.setIfInBounds j true) m' s' a' w' hp.2.2 (fun q hq=>?_) ((hlisted.set j).congr fun q=>?_) hR' (by rw [hds]; exact hN.step hst hrd) hk
    ·rw [hrd] at this; exact this
    ·rcases List.mem_cons.1 hq with h | h
     ·subst h; exact hilt
     ·exact hdn q h
    ·simp only [List.mem_cons]; exact ⟨Or.symm,Or.symm⟩
  | fresh l i j =>
   have hfr:=planOK_fresh hp
   simp only [planOK,Bool.and_eq_true] at hp
   have hfr2:=planOK_fresh hp.2.2.2.2
   have hcalm : ∀ i ∈ l,calmOK ops l i = true:=List.all_eq_true.1 hp.1
   have hnd:=orderOK_nodup hp.2.1
   obtain ⟨oi,oj,t,ty,ty',x,hi,hj,hid,hio,hjo,hxt,hig,hjg,hjd,hia,hja,hij,hls,hi1,hj1,hi2,hj2,hne⟩:=freshOK_inv hp.2.2.1
   simp only [evPlan,hi,hj,hid,hio,hjo] at h
   obtain ⟨href,hz,h⟩:=h
   obtain ⟨ivs,s1,h1,h2,h3,h4⟩:=evSeg_run l (fun i hi=>by
    have:=hcalm i hi
    unfold calmOK at this
    split at this
    ·rename_i o ho; simp only [Bool.and_eq_true] at this; exact ⟨o,ho,this.1⟩
    ·cases this) h
   have e : (flat (.fresh l i j :: rest)).length = (flat rest).length + (l.length + (2 - 0)):=by simp only [flat,Seg.idx,List.length_append,List.length_cons,List.length_nil]; omega
   rw [e]
   refine fresh_sound (later:=flat rest) (done:=done) h1 hcalm hp.2.1 hi hj hid hio hjo hxt hig hjg hjd hia hja hij hls hi1 hj1 hi2 hj2 hne (List.all_eq_true.1 hp.2.2.2.1) (fun q hq=>?_) (fun q hq=>?_) hdn h4 h2 href hz h3.1 h3.2 ?_ _ 0 [] l listed m s a w (by omega) rfl hnd.1 (fun j hj=>hj) (fun x hx=>by cases hx)
    (fun x hx hxl=>absurd (by rw [← h1]; exact List.mem_map.2 ⟨x,hx,rfl⟩) hxl) (Like.refl s) hR (Step.refl _ _ _) rfl rfl (hlisted.congr fun j=>?_)
   ·have:=hfr2.1 q hq
    simp only [List.mem_cons,List.mem_append,List.mem_reverse,not_or] at this
    exact ⟨this.2.2.2,this.2.2.1,this.2.1,this.1⟩
   ·rcases hfr.2.1 q hq with h | h
    ·exact .inl h
    ·simp only [flat,Seg.idx,List.mem_append,List.mem_cons,List.not_mem_nil,or_false] at h
     rcases h with (h | h | h) | h
     ·exact .inr (.inl h)
     ·exact .inr (.inr (.inl h))
     ·exact .inr (.inr (.inr (.inl h)))
     ·exact .inr (.inr (.inr (.inr h)))
   ·rintro m' s' a' w' listed' ⟨s3,hlike,hk3⟩ hR' hst hrd hds hlisted'
    obtain ⟨m2,hR2,hst2,hrd2⟩:=hlike.wk Mo m' _ w' hR'
    have:=ih (j :: i :: (l.reverse ++ done)) listed' m2 s3 a' w' hp.2.2.2.2 (fun q hq=>?_) (hlisted'.congr fun q=>?_) hR2 (by rw [hds]; exact hN.step (hst.trans hst2) (hrd2.trans hrd)) hk3
    ·rw [hrd2,hrd] at this; exact this
    ·simp only [List.mem_cons,List.mem_append,List.mem_reverse] at hq
     rcases hq with h | h | h | h
     ·subst h; exact (Array.getElem?_eq_some_iff.1 hj).1
     ·subst h; exact (Array.getElem?_eq_some_iff.1 hi).1
     ·exact (hnd.2 q h).2
     ·exact hdn q h
    ·simp only [List.mem_cons,List.mem_append,List.mem_reverse]
     constructor
     ·rintro (h | h | h | h)
      ·exact .inr (.inr (.inr h))
      ·exact .inr (.inr (.inl h))
      ·exact .inr (.inl h)
      ·exact .inl h
     ·rintro (h | h | h | h)
      ·exact .inr (.inr (.inr h))
      ·exact .inr (.inr (.inl h))
      ·exact .inr (.inl h)
      ·exact .inl h
   ·constructor
    ·exact .inl
    ·rintro (h | h | h | h)
     ·exact h
     ·exact absurd h.1 h.2
     ·omega
     ·omega
  | make l j =>
   have hfr:=planOK_fresh hp
   simp only [planOK,Bool.and_eq_true] at hp
   have hfr2:=planOK_fresh hp.2.2.2.2
   have hcalm : ∀ i ∈ l,calmOK ops l i = true:=List.all_eq_true.1 hp.1
   have hnd:=orderOK_nodup hp.2.1
   obtain ⟨oj,t,fv,as,hj,hco,hja,hls,hj1,hj2⟩:=makeOK_inv hp.2.2.1
   simp only [evPlan,hj,Option.bind_some,hco] at h
   obtain ⟨hst0,h⟩:=h
   obtain ⟨ivs,s1,h1,h2,h3,h4⟩:=evSeg_run l (fun i hi=>by
    have:=hcalm i hi
    unfold calmOK at this
    split at this
    ·rename_i o ho; simp only [Bool.and_eq_true] at this; exact ⟨o,ho,this.1⟩
    ·cases this) h
   obtain ⟨hst1,htn0,g,ds,sz,xs,hfv,hcal,hds,hmk,h3⟩:=h3
   have e : (flat (.make l j :: rest)).length = (flat rest).length + (l.length + (1 - 0)):=by simp only [flat,Seg.idx,List.length_append,List.length_cons,List.length_nil]; omega
   rw [e]
   refine make_sound (later:=flat rest) (done:=done) h1 hcalm hp.2.1 hj hco hja hls hj1 hj2 (List.all_eq_true.1 hp.2.2.2.1) (fun q hq=>?_) (fun q hq=>?_) hdn h4 h2 hst0 hst1 htn0 hfv hcal hds hmk ?_ _ 0 [] l listed m s a w (by omega) rfl hnd.1 (fun j hj=>hj) (fun x hx=>by cases hx)
    (fun x hx hxl=>absurd (by rw [← h1]; exact List.mem_map.2 ⟨x,hx,rfl⟩) hxl) (Like.refl s) hR (Step.refl _ _ _) rfl rfl (fun q hq x hx=>by rcases hq with h | h; exact absurd h.1 h.2; omega) (hlisted.congr fun j=>?_)
   ·have:=hfr2.1 q hq
    simp only [List.mem_cons,List.mem_append,List.mem_reverse,not_or] at this
    exact ⟨this.2.2,this.2.1,this.1⟩
   ·rcases hfr.2.1 q hq with h | h
    ·exact .inl h
    ·simp only [flat,Seg.idx,List.mem_append,List.mem_cons,List.not_mem_nil,or_false] at h
     rcases h with (h | h) | h
     ·exact .inr (.inl h)
     ·exact .inr (.inr (.inl h))
     ·exact .inr (.inr (.inr h))
   ·intro m' s' a' w' listed' hlike hR' hst hrd hds' hlisted'
    obtain ⟨m2,hR2,hst2,hrd2⟩:=hlike.wk Mo m' _ w' hR'
    have:=ih (j :: (l.reverse ++ done)) listed' m2 _ a' w' hp.2.2.2.2 (fun q hq=>?_) (hlisted'.congr fun q=>?_) hR2 (by rw [hds']; exact hN.step (hst.trans hst2) (hrd2.trans hrd)) h3
    ·rw [hrd2,hrd] at this; exact this
    ·simp only [List.mem_cons,List.mem_append,List.mem_reverse] at hq
     rcases hq with h | h | h
     ·subst h; exact (Array.getElem?_eq_some_iff.1 hj).1
     ·exact (hnd.2 q h).2
     ·exact hdn q h
    ·simp only [List.mem_cons,List.mem_append,List.mem_reverse]
     constructor
     ·rintro (h | h | h)
      ·exact .inr (.inr h)
      ·exact .inr (.inl h)
      ·exact .inl h
     ·rintro (h | h | h)
      ·exact .inr (.inr h)
      ·exact .inr (.inl h)
      ·exact .inl h
   ·constructor
    ·exact .inl
    ·rintro (h | h | h)
     ·exact h
     ·exact absurd h.1 h.2
     ·omega
end Go.Ab
namespace Go.Ab
open Go Go.RowKit
variable {P : Program} {a : Act} {w : World} {n : Nat} {Mo : Cells} {m : Mp} {s : Sa} {p : Name} {sv : List Act} {ops : Array Oper}
theorem listed_none : Listed ops (Array.replicate ops.size false) (· ∈ ([] : List Nat)):=by
 refine ⟨by simp,fun j hj=>?_⟩
 simp [hj]
theorem TC_draw {id : Nat} {Q : Ex → Sa → Prop} (plan : List Seg) (hm : P.follows .mixedOrders = true) (hp : planOK ops [] plan = true) (h : evPlan P p ops plan s (Q .norm)) : TC P p (.region id ops true) s Q:=fun Mo m a sv w n hR=>by
 have hb : Below w.heap.size w { w with drawn:=w.drawn + 1 }:=⟨rfl,rfl,rfl,Nat.le_refl _,fun _ _=>rfl⟩
 have hlen:=(planOK_fresh hp).2.2
 simp only [List.length_nil,Nat.zero_add] at hlen
 refine wpIn_region_any hm ?_
 rw [← hlen]
 rw [show Array.replicate (flat plan).length false = Array.replicate ops.size false by rw [hlen]]
 refine plan_sound plan [] _ m s a _ hp (fun j hj=>by cases hj) listed_none (hR.below hb) ?_ h
 intro m' s' a' w' hk hR' hs hr hd
 exact ⟨.norm,m',s',rfl,hk,hR',(Step.of_below hb).trans hs,hr,by rw [hd]; exact .refl⟩
end Go.Ab
namespace Go.Ab
open Go Go.RowKit
variable {P : Program} {w : World} {n : Nat} {Mo : Cells} {m : Mp} {s : Sa} {as : List Act} {p : Name}
def setLp (s : Sa) (l : Name) (q : Lp) : Sa:={ s with lp:=setN l q s.lp }
theorem Rel.setLoop {l : Name} {q q' : Lp} {r r' : Loop} (h : Rel Mo m s as w) (hl : lookN l s.lp = some q) (hr : w.heap[m.lp l]? = some (.loop r))
  (hq : q'.depth = q.depth ∧ q'.ps = q.ps ∧ q'.assign = q.assign ∧ q'.body = q.body) (hr' : r'.params = r.params ∧ r'.assign = r.assign ∧ r'.body = r.body ∧ r'.tmps = r.tmps)
  (hst : match q'.pending with | none=>r'.state = .ready ∧ r'.pending = none | some (some j)=>r'.state = .done ∧ r'.pending = some j | some none=>r'.state = .busy) :
  Rel Mo m (setLp s l q') as (w.putObj (m.lp l) (.loop r')):=by
 have hne : ∀ (b : Nat) (x : Obj),w.heap[b]? = some x → (∀ y,x ≠ .loop y) → (w.putObj (m.lp l) (.loop r')).heap[b]? = some x:=by
  intro b x hx hnx
  have : b ≠ m.lp l:=fun e=>by subst e; rw [hr] at hx; cases hx; exact hnx _ rfl
  rw [World.putObj_heap_other this]; exact hx
 have hstab : Stab w (Tot Mo s.bx s.ow m) (w.putObj (m.lp l) (.loop r')) (Tot Mo s.bx s.ow m):=by
  intro b j c hc hm
  refine ⟨?_,hm⟩
  have hb : b ≠ m.lp l:=fun e=>by subst e; simp [World.cell?,hr] at hc
  rw [World.cell?_of_block (w:=w) (World.putObj_heap_other hb)]; exact hc
 have hsp : ∀ i sz v,Spare w m i sz v → Spare (w.putObj (m.lp l) (.loop r')) m i sz v:=by
  intro i sz v hs
  unfold Spare at hs ⊢
  split at hs
  ·exact hs
  ·rcases hs with hs | ⟨h1,h2,h3,c,T,h4,h5⟩
   ·exact .inl hs
   ·exact .inr ⟨h1,h2,h3,c,T,hne _ _ h4 (by simp),h5⟩
  ·exact hs.elim
 have hrep : ∀ v c,RepV w (Tot Mo s.bx s.ow m) m v c → RepV (w.putObj (m.lp l) (.loop r')) (Tot Mo s.bx s.ow m) m v c:=fun v c hv=>hv.mono hstab (fun _ _=>rfl) (fun i _ sz v hs=>hsp i sz v hs) (fun _ _=>rfl)
 have hlook : ∀ nm x,lookN nm (setLp s l q').lp = some x → (nm = l ∧ x = q') ∨ (nm ≠ l ∧ lookN nm s.lp = some x):=by
  intro nm x hx
  simp only [setLp,lookN_setN,hl,Option.map_some] at hx
  split at hx
  ·rename_i e; exact .inl ⟨e,by cases hx; rfl⟩
  ·rename_i e; exact .inr ⟨e,hx⟩
 refine ⟨h.len,?_,?_,h.inj,?_,h.owx,h.owb,?_,?_,?_,fun b j hm=>by rw [World.putObj_size]; exact h.mo b j hm,h.mks,h.owm,fun k d hk=>⟨(h.vec k d hk).1,(h.vec k d hk).2.putObj hr (by simp) hstab⟩⟩
 ·intro i hi hi'
  have h0:=h.fr i hi hi'
  refine ⟨h0.size,fun t=>hrep _ _ (h0.ts t),fun d hd=>?_⟩
  obtain ⟨x,e,hx⟩:=h0.def_ d hd
  exact ⟨x,e,hne _ _ hx (by simp)⟩
 ·intro nm c hn
  obtain ⟨cs,T,hb⟩:=h.box nm c hn
  exact ⟨cs,T,hb.heap.mono (fun o ho _ h2=>hne _ _ ho h2),hb.size,hb.leafs,fun i hi=>hrep _ _ (hb.rep i hi)⟩
 ·intro i hi hn
  obtain ⟨c,T,h1,h2⟩:=h.oww i hi hn
  exact ⟨c,T,hne _ _ h1 (by simp),h2⟩
 ·intro nm x hx
  rcases hlook nm x hx with ⟨rfl,rfl⟩ | ⟨hnm,hx⟩
  ·obtain ⟨rc,b,hy⟩:=h.lps nm q hl
   have e:=hy.heap
   rw [hr] at e
   cases e
   refine ⟨r',b,⟨?_,hr'.1.trans (hy.ps.trans hq.2.1.symm),hr'.2.1.trans (hy.assign.trans hq.2.2.1.symm),hr'.2.2.1.trans (hy.body.trans hq.2.2.2.symm),by rw [hq.1]; exact hy.own,hr'.2.2.2.trans hy.tmps,hst⟩⟩
   exact World.putObj_heap_same (Array.getElem?_eq_some_iff.1 hr).1
  ·obtain ⟨rc,b,hy⟩:=h.lps nm x hx
   refine ⟨rc,b,⟨?_,hy.ps,hy.assign,hy.body,hy.own,hy.tmps,hy.stat⟩⟩
   have : m.lp nm ≠ m.lp l:=fun e=>hnm (h.lpi nm x l q hx hl e)
   rw [World.putObj_heap_other this]; exact hy.heap
 ·intro nm x hx
  rcases hlook nm x hx with ⟨rfl,rfl⟩ | ⟨_,hx⟩
  ·rw [hq.1]; exact h.dep nm q hl
  ·exact h.dep nm x hx
 ·intro n1 x1 n2 x2 h1 h2 e
  have : ∀ nm x,lookN nm (setLp s l q').lp = some x → ∃ y,lookN nm s.lp = some y:=fun nm x hx=>by
   rcases hlook nm x hx with ⟨rfl,rfl⟩ | ⟨_,hx⟩
   ·exact ⟨q,hl⟩
   ·exact ⟨x,hx⟩
  obtain ⟨y1,e1⟩:=this n1 x1 h1
  obtain ⟨y2,e2⟩:=this n2 x2 h2
  exact h.lpi n1 y1 n2 y2 e1 e2 e
theorem Step.setLoop {l : Name} {q q' : Lp} {r' : Loop} (hl : lookN l s.lp = some q) (hlt : m.lp l < w.heap.size) : Step m s w m (setLp s l q') (w.putObj (m.lp l) (.loop r')):=by
 have hL : LpB s.lp m (m.lp l):=⟨l,q,hl,rfl⟩
 refine ⟨⟨rfl,rfl,rfl,by simp,fun b hb _ hn=>?_,fun b c T f hc hn=>?_⟩,fun b o _ h=>h,?_,rfl,rfl,fun _ _=>rfl⟩
 ·exact World.putObj_heap_other (fun e=>hn (e ▸ hL))
 ·have hb : b ≠ m.lp l:=fun e=>hn (by rw [e]; exact hL)
  exact ⟨c,by rw [World.putObj_heap_other hb]; exact hc,rfl,fun _ _=>rfl⟩
 ·rintro b _ ⟨nm,x,hx,rfl⟩
  simp only [setLp,lookN_setN,hl,Option.map_some] at hx
  split at hx
  ·rename_i e; exact ⟨nm,q,by rw [e]; exact hl,rfl⟩
  ·exact ⟨nm,x,hx,rfl⟩
theorem lpD_setN (l : Name) (q q' : Lp) (h : q'.depth = q.depth) : ∀ lp : List (Name × Lp),lookN l lp = some q → lpD (setN l q' lp) = lpD lp:=by
 intro lp
 induction lp with
 | nil=>intro hl; simp [lookN] at hl
 | cons x lp ih =>
  obtain ⟨a,b⟩:=x
  intro hl
  simp only [lookN] at hl
  simp only [setN]
  split
  ·rename_i e
   rw [if_pos e] at hl; cases hl
   simp [lpD,h]
  ·rename_i e
   rw [if_neg e] at hl
   simp only [lpD,List.map_cons] at ih ⊢
   rw [ih hl]
def setAll : List Nat → List V → List (Nat × V) → List (Nat × V)
 | t :: ts,v :: vs,l=>setAll ts vs (setT t v l)
 | _,_,l=>l
def frames (s : Sa) : List Fr:={ rd:=s.rd,n:=s.n,ts:=s.ts } :: s.sv
def Sa.round (s : Sa) (l : Name) (f : Fr) (ps : List Nat) (args : List V) : Sa:={ rd:=some l,n:=f.n,ts:=setAll ps args f.ts,sv:={ rd:=s.rd,n:=s.n,ts:=s.ts } :: s.sv,bx:=s.bx,lp:=s.lp,ow:=s.ow,vc:=s.vc }
theorem tsOK_setAll {M : Cells} : ∀ (ps : List Nat) (args : List V) (vs : List Value) (ts : List (Nat × V)) (tmps : Array Value) (nn : Nat),tmps.size = nn → (∀ t ∈ ps,t < nn) → args.length = vs.length → TsOK w M m ts tmps →
  (∀ i (h1 : i < args.length) (h2 : i < vs.length),RepV w M m args[i] vs[i]) →
  TsOK w M m (setAll ps args ts) ((ps.zip vs).foldl (fun tmps x=>tmps.setIfInBounds x.1 x.2) tmps) ∧ ((ps.zip vs).foldl (fun tmps x=>tmps.setIfInBounds x.1 x.2) tmps).size = nn:=by
 intro ps
 induction ps with
 | nil=>intro args vs ts tmps nn hn _ _ h _; exact ⟨by cases args <;> simpa [setAll] using h,by simpa using hn⟩
 | cons t ps ih =>
  intro args vs ts tmps nn hn hps hlen h hr
  cases args with
  | nil=>cases vs with
   | nil=>exact ⟨by simpa [setAll] using h,by simpa using hn⟩
   | cons v vs=>simp at hlen
  | cons x args=>cases vs with
   | nil=>simp at hlen
   | cons v vs =>
    simp only [setAll,List.zip_cons_cons,List.foldl_cons]
    refine ih args vs _ _ nn (by simpa using hn) (fun u hu=>hps u (List.mem_cons_of_mem _ hu)) (by simpa using hlen) ?_ (fun i h1 h2=>hr (i + 1) (by simpa using h1) (by simpa using h2))
    intro u
    have ht : t < tmps.size:=by rw [hn]; exact hps t List.mem_cons_self
    rw [lkT_setT]
    split
    ·rename_i e; subst e
     rw [Array.getD_eq_getD_getElem?,Array.getElem?_setIfInBounds_self_of_lt ht]
     exact hr 0 (by simp) (by simp)
    ·rename_i e
     have:=h u
     rw [Array.getD_eq_getD_getElem?] at this ⊢
     rw [Array.getElem?_setIfInBounds_ne (fun e'=>e e'.symm)]; exact this
theorem Rel.round {l : Name} {q : Lp} {f : Fr} {args : List V} {vs : Array Value} {r : Loop} {a : Act} (h : Rel Mo m s as w) (hl : lookN l s.lp = some q) (hx : LpOK w m l q as r a) (hf : (frames s).reverse[q.depth]? = some f)
  (hps : ∀ t ∈ q.ps.toList,t < f.n) (hlen : args.length = q.ps.size) (ha : ArgsOK w (Tot Mo s.bx s.ow m) m args vs) :
  Rel Mo m (s.round l f q.ps.toList args) ({ tmps:=(q.ps.toList.zip vs.toList).foldl (fun tmps x=>tmps.setIfInBounds x.1 x.2) r.tmps,defers:=[] } :: as) w:=by
 have hfr : FrOK w (Tot Mo s.bx s.ow m) m f a:=by
  have h1:=hx.own
  have hlenf : (frames s).length = as.length:=by simp [frames,h.len]
  obtain ⟨i1,e1⟩:=List.getElem?_eq_some_iff.1 h1
  obtain ⟨i2,e2⟩:=List.getElem?_eq_some_iff.1 hf
  rw [List.getElem_reverse] at e1 e2
  have hi : (frames s).length - 1 - q.depth < (frames s).length:=by simp at i2; omega
  have h0:=h.fr ((frames s).length - 1 - q.depth) hi (by omega)
  have e3 : as[(frames s).length - 1 - q.depth]'(by omega) = a:=by rw [← e1]; congr 1; omega
  have e4 : (frames s)[(frames s).length - 1 - q.depth]'hi = f:=e2
  rw [e3] at h0
  have : (({ rd:=s.rd,n:=s.n,ts:=s.ts } : Fr) :: s.sv)[(frames s).length - 1 - q.depth]'hi = f:=e4
  rw [this] at h0
  exact h0
 have hts:=tsOK_setAll (w:=w) (m:=m) (M:=Tot Mo s.bx s.ow m) q.ps.toList args vs.toList f.ts r.tmps f.n (by rw [hx.tmps]; exact hfr.size) hps (by simp [ha.1]) (by rw [hx.tmps]; exact hfr.ts) (fun i h1 h2=>by
  have:=ha.2 i h1
  rw [Array.getD_eq_getD_getElem?,Array.getElem?_eq_getElem (by simpa using h2)] at this
  simpa using this)
 refine ⟨by simp [Sa.round,h.len],?_,h.box,h.inj,h.oww,h.owx,h.owb,?_,?_,h.lpi,h.mo,?_,h.owm,h.vec⟩
 ·intro i hi hi'
  cases i with
  | zero=>exact ⟨hts.2,fun t=>hts.1 t,fun d hd=>by simp at hd⟩
  | succ i=>exact h.fr i (by simpa [Sa.round] using hi) (by simpa using hi')
 ·intro nm x hl
  obtain ⟨r,a,hr⟩:=h.lps nm x hl
  refine ⟨r,a,⟨hr.heap,hr.ps,hr.assign,hr.body,?_,hr.tmps,hr.stat⟩⟩
  have:=hr.own
  have hd:=h.dep nm x hl
  rw [List.reverse_cons,List.getElem?_append_left (by simp; omega)]; exact this
 ·intro nm x hl
  have:=h.dep nm x hl
  simp; omega
 ·have:=h.mks
  simpa [marks] using this
end Go.Ab
namespace Go.Ab
open Go Go.RowKit
variable {P : Program} {w : World} {n : Nat} {Mo : Cells} {m : Mp} {s : Sa} {as : List Act} {p : Name}
def jmp : Ex → Option (Option Code)
 | .norm=>none
 | .exit i=>some (some (.exit i))
 | .ret=>some (some .ret)
def goesOn : Ex → Bool
 | .norm=>true
 | _=>false
def EndK (l : Name) (s : Sa) (k : V → Sa → Prop) (e : Ex) (s2 : Sa) : Prop :=
 s2.sv.length = s.sv.length + 1 ∧ lpD s2.lp = lpD s.lp ∧ match lookN l s2.lp with
  | some q2=>k (.d (.b (goesOn e))) (setLp s2 l { q2 with pending:=jmp e }).pop
  | none=>False
end Go.Ab
namespace Go.Ab
open Go Go.RowKit
variable {P : Program} {w : World} {n : Nat} {Mo : Cells} {m : Mp} {s : Sa} {as : List Act} {p : Name}
mutual
def V.ylds (n : Name) : V → Bool
 | .yld m=>m == n
 | .fn _ c=>V.yldsL n c
 | .agg c=>V.yldsL n c
 | .tup c=>V.yldsL n c
 | _=>false
def V.yldsL (n : Name) : List V → Bool
 | []=>false
 | v :: vs=>v.ylds n || V.yldsL n vs
end
mutual
theorem V.ylds_lps (n : Name) : ∀ v : V,v.ylds n = false → n ∉ v.lps
 | .yld m=>by simp [V.ylds,V.lps]; exact fun h e=>h e.symm
 | .fn f c=>by simp only [V.ylds,V.lps]; exact V.yldsL_lps n c
 | .agg c=>by simp only [V.ylds,V.lps]; exact V.yldsL_lps n c
 | .tup c=>by simp only [V.ylds,V.lps]; exact V.yldsL_lps n c
 | .own .. | .d _ | .nil | .ref _ | .ptr .. | .mref _ | .mpc .. | .vsl .. | .vpt .. | .dead=>by simp [V.lps]
theorem V.yldsL_lps (n : Name) : ∀ vs : List V,V.yldsL n vs = false → n ∉ V.lpsL vs
 | []=>by simp [V.lpsL]
 | v :: vs=>by
  simp only [V.yldsL,V.lpsL,Bool.or_eq_false_iff,List.mem_append,not_or]
  exact fun ⟨a,b⟩=>⟨V.ylds_lps n v a,V.yldsL_lps n vs b⟩
end
def Sa.ylds (s : Sa) (n : Name) : Bool :=
 s.ts.any (fun x=>x.2.ylds n) || s.sv.any (fun f=>f.ts.any (fun x=>x.2.ylds n)) || s.bx.any (fun x=>x.2.ylds n)
theorem Sa.ylds_all {n : Name} (h : s.ylds n = false) : AllV (fun v=>n ∉ v.lps) s:=by
 simp only [Sa.ylds,Bool.or_eq_false_iff,List.any_eq_false] at h
 obtain ⟨⟨h1,h2⟩,h3⟩:=h
 refine ⟨fun t=>look_mem (fun v=>n ∉ v.lps) (by simp [V.lps]) _ (fun x hx=>V.ylds_lps n _ (Bool.eq_false_iff.2 (h1 x hx))) t,fun f hf t=>look_mem (fun v=>n ∉ v.lps) (by simp [V.lps]) _ (fun x hx=>?_) t,
  fun k c hk=>V.ylds_lps n c (Bool.eq_false_iff.2 (h3 _ (lookN_mem hk)))⟩
 have h4:=h2 f hf
 rw [Bool.not_eq_true,List.any_eq_false] at h4
 exact V.ylds_lps n _ (Bool.eq_false_iff.2 (h4 x hx))
def Mp.setLp (m : Mp) (l : Name) (N : Nat) : Mp:={ m with lp:=fun x=>if x = l then N else m.lp x }
theorem RepV.newLp {w' : World} {M : Cells} {v : V} {c : Value} {l : Name} {N : Nat} (h : RepV w M m v c) (hy : l ∉ v.lps) (hbl : Below w.heap.size w w') : RepV w' M (m.setLp l N) v c :=
 h.mono (stab_below M hbl) (fun _ _=>rfl) (fun _ _ _ _ hs=>spare_heap hs rfl (fun _ _=>heap_below hbl)) (fun k hk=>by
  have : k ≠ l:=fun e=>hy (e ▸ hk)
  simp [Mp.setLp,this])
theorem Rel.newLp {w' : World} {l : Name} {N : Nat} (h : Rel Mo m s as w) (hy : AllV (fun v=>l ∉ v.lps) s) (hn : lookN l s.lp = none) (hbl : Below w.heap.size w w') : Rel Mo (m.setLp l N) s as w':=by
 have hall : ∀ x : V,l ∉ x.lps → (∀ n ∈ x.bxs,m.bx n = m.bx n) ∧ (∀ i ∈ x.ows,∀ sz y,Spare w m i sz y → Spare w' (m.setLp l N) i sz y) ∧ (∀ k ∈ x.lps,(m.setLp l N).lp k = m.lp k):=fun x hx =>
  ⟨fun _ _=>rfl,fun _ _ _ _ hs=>spare_heap hs rfl (fun _ _=>heap_below hbl),fun k hk=>by
   have : k ≠ l:=fun e=>hx (e ▸ hk)
   simp [Mp.setLp,this]⟩
 refine h.remap (s':=s) (m':=m.setLp l N) rfl rfl rfl rfl rfl (stab_below _ hbl) ⟨fun t=>hall _ (hy.ts t),fun g hg t=>hall _ (hy.sv g hg t),fun n d hd=>hall _ (hy.bx n d hd)⟩
  hbl.size (fun b o ho _=>heap_below hbl ho) (fun k q hk=>?_) ?_ h.inj ?_ h.owx h.owb h.owm (fun k d hk=>⟨(h.vec k d hk).1,(h.vec k d hk).2.mono (stab_below _ hbl) rfl rfl (fun _ o v _ _ hv=>by rw [hbl.cell (p:=⟨_,o,none⟩) (World.block_lt_of_cell? w _ hv)]; exact hv) (fun b c T hc=>⟨c,heap_below hbl hc,rfl⟩)⟩)
 ·have : k ≠ l:=fun e=>by rw [e,hn] at hk; cases hk
  simp [Mp.setLp,this]
 ·intro nm d hd
  obtain ⟨cs,T,hb⟩:=h.box nm d hd
  exact ⟨cs,T,hb.heap.mono (fun _ ho _ _=>heap_below hbl ho),hb.size,hb.leafs,fun i hi=>(hb.rep i hi).newLp (fun hx=>hy.bx nm d hd (lps_cells d i hi l hx)) hbl⟩
 ·intro i hi hne
  obtain ⟨c,T,h1,h2⟩:=h.oww i hi hne
  exact ⟨c,T,heap_below hbl h1,h2⟩
theorem Rel.marks_lt (h : Rel Mo m s as w) : ∀ d ∈ marks as,∃ r,d = { target:=.collected r,args:=#[] } ∧ r < w.heap.size:=by
 intro d hd
 obtain ⟨a,ha,hd⟩:=List.mem_flatMap.1 hd
 obtain ⟨i,hi,rfl⟩:=List.getElem_of_mem ha
 obtain ⟨r,e,hr⟩:=(h.fr i (by rw [List.length_cons,← h.len]; exact hi) hi).def_ d hd
 exact ⟨r,e,(Array.getElem?_eq_some_iff.1 hr).1⟩
theorem Rel.addMark {a : Act} {r : Nat} (h : Rel Mo m s (a :: as) w) (hr : w.heap[r]? = some (.deferred (some []))) (hnew : ∀ d ∈ marks (a :: as),d ≠ { target:=.collected r,args:=#[] }) :
  Rel Mo m s ({ a with defers:={ target:=.collected r,args:=#[] } :: a.defers } :: as) w:=by
 refine ⟨by simpa using h.len,?_,h.box,h.inj,h.oww,h.owx,h.owb,?_,by simpa using h.dep,h.lpi,h.mo,?_,h.owm,h.vec⟩
 ·intro i hi hi'
  cases i with
  | zero =>
   have h0:=h.fr 0 (by simp) (by simp)
   refine ⟨h0.size,h0.ts,fun d hd=>?_⟩
   rcases List.mem_cons.1 hd with rfl | hd
   ·exact ⟨r,rfl,hr⟩
   ·exact h0.def_ d hd
  | succ i=>exact h.fr (i + 1) hi (by simpa using hi')
 ·intro l q hl
  obtain ⟨rc,b,hx⟩:=h.lps l q hl
  refine ⟨rc,b,⟨hx.heap,hx.ps,hx.assign,hx.body,?_,hx.tmps,hx.stat⟩⟩
  have hown:=hx.own
  have hd:=h.dep l q hl
  simp only [List.length_cons] at hd
  rw [List.reverse_cons,List.getElem?_append_left (by simp; omega)] at hown ⊢
  exact hown
 ·have:=h.mks
  simp only [marks,List.flatMap_cons,List.cons_append,List.nodup_cons] at this ⊢
  exact ⟨fun hm=>hnew _ (by simpa [marks] using hm) rfl,this⟩
theorem Rel.addLoop {l : Name} {q : Lp} {r : Loop} {a : Act} (h : Rel Mo m s as w) (hn : lookN l s.lp = none) (hx : LpOK w m l q as r a) (hd : q.depth + 1 < as.length) (hf : ∀ l' p',lookN l' s.lp = some p' → m.lp l' ≠ m.lp l) :
  Rel Mo m { s with lp:=(l,q) :: s.lp } as w:=by
 refine ⟨h.len,h.fr,h.box,h.inj,h.oww,h.owx,h.owb,?_,?_,?_,h.mo,h.mks,h.owm,h.vec⟩
 ·intro nm x hl
  simp only [lookN] at hl
  split at hl
  ·rename_i e; cases hl; subst e; exact ⟨r,a,hx⟩
  ·exact h.lps nm x hl
 ·intro nm x hl
  simp only [lookN] at hl
  split at hl
  ·cases hl; exact hd
  ·exact h.dep nm x hl
 ·intro n1 x1 n2 x2 h1 h2 e
  simp only [lookN] at h1 h2
  split at h1
  ·rename_i e1
   split at h2
   ·rename_i e2; rw [← e1,← e2]
   ·subst e1; exact absurd e.symm (hf n2 x2 h2)
  ·split at h2
   ·rename_i e2; subst e2; exact absurd e (hf n1 x1 h1)
   ·exact h.lpi n1 x1 n2 x2 h1 h2 e
theorem Rel.dropLoop {l : Name} {q : Lp} {tl : List (Name × Lp)} {r r' : Loop} (h : Rel Mo m s as w) (hs : s.lp = (l,q) :: tl) (hn : lookN l tl = none) (hr : w.heap[m.lp l]? = some (.loop r)) :
  Rel Mo m { s with lp:=tl } as (w.putObj (m.lp l) (.loop r')):=by
 have hne : ∀ (b : Nat) (x : Obj),w.heap[b]? = some x → (∀ y,x ≠ .loop y) → (w.putObj (m.lp l) (.loop r')).heap[b]? = some x:=by
  intro b x hx hnx
  have : b ≠ m.lp l:=fun e=>by subst e; rw [hr] at hx; cases hx; exact hnx _ rfl
  rw [World.putObj_heap_other this]; exact hx
 have hstab : Stab w (Tot Mo s.bx s.ow m) (w.putObj (m.lp l) (.loop r')) (Tot Mo s.bx s.ow m):=by
  intro b j c hc hm
  refine ⟨?_,hm⟩
  have hb : b ≠ m.lp l:=fun e=>by subst e; simp [World.cell?,hr] at hc
  rw [World.cell?_of_block (w:=w) (World.putObj_heap_other hb)]; exact hc
 have hsp : ∀ i sz v,Spare w m i sz v → Spare (w.putObj (m.lp l) (.loop r')) m i sz v:=by
  intro i sz v hs
  unfold Spare at hs ⊢
  split at hs
  ·exact hs
  ·rcases hs with hs | ⟨h1,h2,h3,c,T,h4,h5⟩
   ·exact .inl hs
   ·exact .inr ⟨h1,h2,h3,c,T,hne _ _ h4 (by simp),h5⟩
  ·exact hs.elim
 have hrep : ∀ v c,RepV w (Tot Mo s.bx s.ow m) m v c → RepV (w.putObj (m.lp l) (.loop r')) (Tot Mo s.bx s.ow m) m v c:=fun v c hv=>hv.mono hstab (fun _ _=>rfl) (fun i _ sz v hs=>hsp i sz v hs) (fun _ _=>rfl)
 have hlook : ∀ nm x,lookN nm tl = some x → nm ≠ l ∧ lookN nm s.lp = some x:=by
  intro nm x hx
  have : nm ≠ l:=fun e=>by rw [e,hn] at hx; cases hx
  exact ⟨this,by rw [hs]; simp only [lookN]; rw [if_neg (Ne.symm this)]; exact hx⟩
 have hll : lookN l s.lp = some q:=by rw [hs]; simp [lookN]
 refine ⟨h.len,?_,?_,h.inj,?_,h.owx,h.owb,?_,?_,?_,fun b j hm=>by rw [World.putObj_size]; exact h.mo b j hm,h.mks,h.owm,fun k d hk=>⟨(h.vec k d hk).1,(h.vec k d hk).2.putObj hr (by simp) hstab⟩⟩
 ·intro i hi hi'
  have h0:=h.fr i hi hi'
  refine ⟨h0.size,fun t=>hrep _ _ (h0.ts t),fun d hd=>?_⟩
  obtain ⟨x,e,hx⟩:=h0.def_ d hd
  exact ⟨x,e,hne _ _ hx (by simp)⟩
 ·intro nm c hn
  obtain ⟨cs,T,hb⟩:=h.box nm c hn
  exact ⟨cs,T,hb.heap.mono (fun o ho _ h2=>hne _ _ ho h2),hb.size,hb.leafs,fun i hi=>hrep _ _ (hb.rep i hi)⟩
 ·intro i hi hn
  obtain ⟨c,T,h1,h2⟩:=h.oww i hi hn
  exact ⟨c,T,hne _ _ h1 (by simp),h2⟩
 ·intro nm x hx
  obtain ⟨h1,h2⟩:=hlook nm x hx
  obtain ⟨rc,b,hy⟩:=h.lps nm x h2
  refine ⟨rc,b,⟨?_,hy.ps,hy.assign,hy.body,hy.own,hy.tmps,hy.stat⟩⟩
  have : m.lp nm ≠ m.lp l:=fun e=>h1 (h.lpi nm x l q h2 hll e)
  rw [World.putObj_heap_other this]; exact hy.heap
 ·intro nm x hx
  exact h.dep nm x (hlook nm x hx).2
 ·intro n1 x1 n2 x2 h1 h2 e
  exact h.lpi n1 x1 n2 x2 (hlook n1 x1 h1).2 (hlook n2 x2 h2).2 e
theorem Rel.setRd (h : Rel Mo m s as w) (r : Option Name) : Rel Mo m { s with rd:=r } as w:=by
 refine ⟨h.len,?_,h.box,h.inj,h.oww,h.owx,h.owb,h.lps,h.dep,h.lpi,h.mo,h.mks,h.owm,h.vec⟩
 intro i hi hi'
 cases i with
 | zero=>exact ⟨(h.fr 0 (by simp) hi').size,(h.fr 0 (by simp) hi').ts,(h.fr 0 (by simp) hi').def_⟩
 | succ i=>exact h.fr (i + 1) hi hi'
def Sa.loopIn (s : Sa) (l : Name) (nt : Nat) (args : List V) (q : Lp) : Sa:={ rd:=none,n:=nt,ts:=argTs 0 args,sv:={ rd:=some l,n:=s.n,ts:=s.ts } :: s.sv,bx:=s.bx,lp:=(l,q) :: s.lp,ow:=s.ow,vc:=s.vc }
def Sa.loopOut (s : Sa) : Sa:=match s.sv with
 | f :: fs=>{ rd:=none,n:=f.n,ts:=f.ts,sv:=fs,bx:=s.bx,lp:=s.lp.tail,ow:=s.ow,vc:=s.vc }
 | []=>s
def LeftLoop (P : Program) (p : Name) (rs : List ResultVar) (l : Name) (s0 : Sa) (Q : Ex → Sa → Prop) (e : Ex) (s : Sa) : Prop :=
 (match e with | .exit _=>False | _=>True) ∧ s.sv.length = s0.sv.length + 1 ∧ lpD s.lp = (l,s0.sv.length) :: lpD s0.lp ∧ resK P s rs fun _=>match s.lp with
  | (_,q) :: _=>match q.pending with
   | none=>Q .norm s.loopOut
   | some none=>False
   | some (some c)=>ev P (sems P) p c s.loopOut Q
  | []=>False
theorem Rel.loopIn {a : Act} {sv : List Act} {w1 : World} {l : Name} {args : List V} {vs : Array Value} {nt : Nat} {ps : Array Tmp} {assign body : Code} {r : Loop} {B : Nat} (h : Rel Mo m s (a :: sv) w) (hy : AllV (fun v=>l ∉ v.lps) s) (hn : lookN l s.lp = none)
  (hbl : Below w.heap.size w w1) (hB : w1.heap[B]? = some (.deferred (some []))) (hBs : w.heap.size ≤ B) {N : Nat} (hN : w1.heap[N]? = some (.loop r)) (hNs : w.heap.size ≤ N)
  (hr : r.params = ps ∧ r.assign = assign ∧ r.body = body ∧ r.tmps = a.tmps ∧ r.state = .ready ∧ r.pending = none)
  (ha : ArgsOK w1 (Tot Mo s.bx s.ow m) (m.setLp l N) args vs) (hle : args.length ≤ nt) :
  Rel Mo (m.setLp l N) (s.loopIn l nt args ⟨s.sv.length,ps,assign,body,none⟩)
   ({ tmps:=vs ++ Array.replicate (nt - vs.size) undef,defers:=[] } :: { a with defers:={ target:=.collected B,args:=#[] } :: a.defers } :: sv) w1:=by
 have h1:=(h.newLp (N:=N) hy hn hbl).addMark hB (fun d hd=>by
  obtain ⟨r,e,hr⟩:=h.marks_lt d hd
  intro e2
  rw [e] at e2
  have : r = B:=by cases e2; rfl
  omega)
 have h2:=(h1.setRd (some l)).push (args:=args) (vs:=vs) nt ha hle
 refine h2.addLoop (l:=l) (q:=⟨s.sv.length,ps,assign,body,none⟩) (r:=r) (a:={ a with defers:={ target:=.collected B,args:=#[] } :: a.defers }) hn ?_ ?_ ?_
 ·refine ⟨by simpa [Mp.setLp] using hN,hr.1,hr.2.1,hr.2.2.1,?_,hr.2.2.2.1,hr.2.2.2.2⟩
  have hl:=h.len
  simp only [List.length_cons,Nat.add_right_cancel_iff] at hl
  have e : ∀ (x y : Act),(x :: y :: sv).reverse[s.sv.length]? = some y:=fun x y=>by
   rw [← hl]
   simp
  exact e _ _
 ·have hl:=h.len
  simp only [List.length_cons] at hl ⊢
  omega
 ·intro l' p' hl
  have : l' ≠ l:=fun e=>by rw [e] at hl; exact absurd hl (by simp [Sa.push,hn])
  obtain ⟨rc,b,hx⟩:=h.lps l' p' hl
  have:=(Array.getElem?_eq_some_iff.1 hx.heap).1
  simp only [Mp.setLp,if_true]
  rw [if_neg (by assumption)]
  omega
theorem lpD_none : ∀ {l l' : List (Name × Lp)},lpD l = lpD l' → ∀ {nm : Name},lookN nm l = none → lookN nm l' = none:=by
 intro l l' e nm h
 cases h' : lookN nm l' with
 | none=>rfl
 | some q =>
  obtain ⟨q',h1,_⟩:=lpD_look e.symm h'
  rw [h] at h1; cases h1
end Go.Ab
namespace Go.Ab
open Go Go.RowKit
set_option linter.unusedVariables false
variable {P : Program} {a : Act} {w : World} {n : Nat} {Mo : Cells} {m : Mp} {s : Sa} {p : Name} {k : Sa → Prop} {Q : Exit → Act → World → Prop} {sv : List Act} {ops : Array Oper}
structure Eqv (s s' : Sa) : Prop where
 rd : s.rd = s'.rd
 n : s.n = s'.n
 sv : s.sv = s'.sv
 bx : ∀ nm,lookN nm s.bx = lookN nm s'.bx
 lp : s.lp = s'.lp
 ow : s.ow = s'.ow
 ts : ∀ t,lkT t s.ts = lkT t s'.ts
 vc : s.vc = s'.vc
theorem Eqv.refl (s : Sa) : Eqv s s:=⟨rfl,rfl,rfl,fun _=>rfl,rfl,rfl,fun _=>rfl,rfl⟩
theorem Eqv.trans {s s' s'' : Sa} (h : Eqv s s') (h' : Eqv s' s'') : Eqv s s'':=⟨h.rd.trans h'.rd,h.n.trans h'.n,h.sv.trans h'.sv,fun nm=>(h.bx nm).trans (h'.bx nm),h.lp.trans h'.lp,h.ow.trans h'.ow,fun t=>(h.ts t).trans (h'.ts t),h.vc.trans h'.vc⟩
theorem Eqv.symm {s s' : Sa} (h : Eqv s s') : Eqv s' s:=⟨h.rd.symm,h.n.symm,h.sv.symm,fun nm=>(h.bx nm).symm,h.lp.symm,h.ow.symm,fun t=>(h.ts t).symm,h.vc.symm⟩
theorem Eqv.wk {s s' : Sa} (h : Eqv s s') : Wk s s':=Wk.of h.rd.symm h.n.symm h.lp.symm (fun t=>.inl (h.ts t).symm) h.sv.symm (fun nm c hc=>by rw [h.bx]; exact hc) (fun i hi=>by rw [h.ow]; exact hi) (fun n c hn=>⟨by rw [h.vc]; exact hn,fun hi=>by rw [← h.ow]; exact hi⟩)
theorem Eqv.put {s s' : Sa} (h : Eqv s s') (d : Option Tmp) (v : V) : Eqv (s.put d v) (s'.put d v):=by
 cases d with
 | none=>exact h
 | some d=>exact ⟨h.rd,h.n,h.sv,h.bx,h.lp,h.ow,fun t=>by simp only [Sa.put,lkT_setT',h.ts t],h.vc⟩
theorem Like.eqv {s s' : Sa} (h : Like s s') : Eqv s s':=⟨h.rd,h.n,h.sv,fun nm=>by rw [h.bx],h.lp,h.ow,h.ts,h.vc⟩
structure Eff where
 i : Nat
 v : V
 w : List (Name × V)
def addN (n : Name) (c : V) (l : List (Name × V)) : List (Name × V):=(n,c) :: l
def addAll (ws : List (Name × V)) (l : List (Name × V)) : List (Name × V):=ws.foldl (fun l x=>addN x.1 x.2 l) l
def appE (ops : Array Oper) (s : Sa) (e : Eff) : Sa:=({ s with bx:=addAll e.w s.bx } : Sa).put (dstOf ops e.i) e.v
def appAll (ops : Array Oper) (s : Sa) (l : List Eff) : Sa:=l.foldl (appE ops) s
theorem appAll_append (l l' : List Eff) : appAll ops s (l ++ l') = appAll ops (appAll ops s l) l':=by simp [appAll]
theorem appE_fields (e : Eff) : (appE ops s e).rd = s.rd ∧ (appE ops s e).n = s.n ∧ (appE ops s e).sv = s.sv ∧ (appE ops s e).lp = s.lp ∧ (appE ops s e).ow = s.ow ∧ (appE ops s e).bx = addAll e.w s.bx:=by
 unfold appE
 cases dstOf ops e.i <;> exact ⟨rfl,rfl,rfl,rfl,rfl,rfl⟩
theorem appAll_fields (l : List Eff) : (appAll ops s l).rd = s.rd ∧ (appAll ops s l).n = s.n ∧ (appAll ops s l).sv = s.sv ∧ (appAll ops s l).lp = s.lp ∧ (appAll ops s l).ow = s.ow:=by
 induction l generalizing s with
 | nil=>exact ⟨rfl,rfl,rfl,rfl,rfl⟩
 | cons e l ih =>
  obtain ⟨h1,h2,h3,h4,h5⟩:=ih (s:=appE ops s e)
  obtain ⟨g1,g2,g3,g4,g5,_⟩:=appE_fields (ops:=ops) (s:=s) e
  exact ⟨h1.trans g1,h2.trans g2,h3.trans g3,h4.trans g4,h5.trans g5⟩
theorem appE_vc (e : Eff) : (appE ops s e).vc = s.vc:=by
 unfold appE
 cases dstOf ops e.i <;> rfl
theorem appAll_vc : ∀ (l : List Eff) {s : Sa},(appAll ops s l).vc = s.vc
 | [],s=>rfl
 | e :: l,s=>(appAll_vc l (s:=appE ops s e)).trans (appE_vc e)
def lastW (nm : Name) : List (Name × V) → Option V
 | []=>none
 | x :: l=>match lastW nm l with
  | some c=>some c
  | none=>if x.1 = nm then some x.2 else none
theorem look_addAll {nm : Name} : ∀ {ws l : List (Name × V)},lookN nm (addAll ws l) = (match lastW nm ws with | some c=>some c | none=>lookN nm l)
 | [],l=>rfl
 | x :: ws,l=>by
  have e : addAll (x :: ws) l = addAll ws (addN x.1 x.2 l):=rfl
  rw [e,look_addAll,lastW]
  cases h : lastW nm ws with
  | some c=>rfl
  | none =>
   simp only [addN,lookN]
   split <;> rfl
def lastE (nm : Name) : List Eff → Option V
 | []=>none
 | e :: l=>match lastE nm l with
  | some c=>some c
  | none=>lastW nm e.w
theorem look_appAll {nm : Name} : ∀ {l : List Eff} {s : Sa},lookN nm (appAll ops s l).bx = (match lastE nm l with | some c=>some c | none=>lookN nm s.bx)
 | [],s=>rfl
 | e :: l,s=>by
  have h : appAll ops s (e :: l) = appAll ops (appE ops s e) l:=rfl
  rw [h,look_appAll,lastE]
  cases lastE nm l with
  | some c=>rfl
  | none=>simp only [(appE_fields (ops:=ops) (s:=s) e).2.2.2.2.2,look_addAll]
def writes (nm : Name) (e : Eff) : Bool:=(lastW nm e.w).isSome
theorem lastE_filter {nm : Name} : ∀ {l : List Eff},lastE nm l = lastE nm (l.filter (writes nm))
 | []=>rfl
 | e :: l=>by
  rw [List.filter_cons]
  split
  ·simp only [lastE,lastE_filter (l:=l)]
  ·rename_i h
   have h : lastW nm e.w = none:=by simpa [writes] using h
   rw [lastE,h,← lastE_filter (l:=l)]
   cases lastE nm l <;> rfl
def lastT (ops : Array Oper) (t : Nat) : List Eff → Option V
 | []=>none
 | e :: l=>match lastT ops t l with
  | some c=>some c
  | none=>if dstOf ops e.i = some t then some e.v else none
theorem lk_appE {t : Nat} {e : Eff} : lkT t (appE ops s e).ts = if dstOf ops e.i = some t then e.v else lkT t s.ts:=by
 unfold appE
 cases h : dstOf ops e.i with
 | none=>simp [Sa.put]
 | some d=>simp only [Sa.put,lkT_setT',Option.some.injEq]
theorem lk_appAll {t : Nat} : ∀ {l : List Eff} {s : Sa},lkT t (appAll ops s l).ts = (match lastT ops t l with | some c=>c | none=>lkT t s.ts)
 | [],s=>rfl
 | e :: l,s=>by
  have h : appAll ops s (e :: l) = appAll ops (appE ops s e) l:=rfl
  rw [h,lk_appAll,lastT]
  cases lastT ops t l with
  | some c=>rfl
  | none =>
   simp only [lk_appE]
   split <;> rfl
def putsT (ops : Array Oper) (t : Nat) (e : Eff) : Bool:=decide (dstOf ops e.i = some t)
theorem lastT_filter {t : Nat} : ∀ {l : List Eff},lastT ops t l = lastT ops t (l.filter (putsT ops t))
 | []=>rfl
 | e :: l=>by
  rw [List.filter_cons]
  split
  ·simp only [lastT,lastT_filter (l:=l)]
  ·rename_i h
   have h : ¬ dstOf ops e.i = some t:=by simpa [putsT] using h
   rw [lastT,if_neg h,← lastT_filter (l:=l)]
   cases lastT ops t l <;> rfl
theorem filter_same {α : Type} {l : List α} {q r u : α → Bool} (h : ∀ x ∈ l,u x = true → q x = r x) : (l.filter q).filter u = (l.filter r).filter u:=by
 rw [List.filter_filter,List.filter_filter]
 refine List.filter_congr fun x hx=>?_
 cases hu : u x with
 | false=>simp
 | true=>simp [h x hx hu]
theorem refs_put' {nm : Name} {d : Option Tmp} {v : V} (h : s.refs nm = false) (hv : v.refs nm = false) : (s.put d v).refs nm = false:=by
 cases d with
 | none=>exact h
 | some d =>
  simp only [Sa.refs,Bool.or_eq_false_iff] at h ⊢
  refine ⟨⟨?_,h.1.2⟩,h.2⟩
  have h1:=h.1.1
  simp only [Sa.put]
  generalize s.ts = l at h1
  induction l with
  | nil=>simp [setT,hv]
  | cons x l ih =>
   obtain ⟨a,b⟩:=x
   simp only [List.any_cons,Bool.or_eq_false_iff] at h1
   simp only [setT]
   split
   ·simp only [List.any_cons,Bool.or_eq_false_iff]; exact ⟨hv,h1.2⟩
   ·simp only [List.any_cons,Bool.or_eq_false_iff]; exact ⟨h1.1,ih h1.2⟩
theorem refs_appE {nm : Name} {e : Eff} (h : s.refs nm = false) (hv : e.v.refs nm = false) (hw : ∀ x ∈ e.w,x.2.refs nm = false) : (appE ops s e).refs nm = false:=by
 refine refs_put' ?_ hv
 simp only [Sa.refs,Bool.or_eq_false_iff] at h ⊢
 refine ⟨h.1,?_⟩
 have h2:=h.2
 generalize s.bx = l at h2
 have : ∀ (ws l : List (Name × V)),(∀ x ∈ ws,x.2.refs nm = false) → (l.any fun x=>x.2.refs nm) = false → ((addAll ws l).any fun x=>x.2.refs nm) = false:=by
  intro ws
  induction ws with
  | nil=>intro l _ h; exact h
  | cons x ws ih =>
   intro l hw h
   exact ih _ (fun y hy=>hw y (List.mem_cons_of_mem _ hy)) (by simp only [addN,List.any_cons,Bool.or_eq_false_iff]; exact ⟨hw x List.mem_cons_self,h⟩)
 exact this e.w l hw h2
theorem refs_appAll {nm : Name} : ∀ {l : List Eff} {s : Sa},s.refs nm = false → (∀ e ∈ l,e.v.refs nm = false ∧ ∀ x ∈ e.w,x.2.refs nm = false) → (appAll ops s l).refs nm = false
 | [],s,h,_=>h
 | e :: l,s,h,hl=>refs_appAll (s:=appE ops s e) (refs_appE h (hl e List.mem_cons_self).1 (hl e List.mem_cons_self).2) fun x hx=>hl x (List.mem_cons_of_mem _ hx)
def Fact (P : Program) (p : Name) (ops : Array Oper) (s : Sa) (H : Nat → Name → Bool) (fr : Nat → List Name) (L1 : List Eff) (e : Eff) : Prop :=
 ∃ o,ops[e.i]? = some o ∧ ∀ s' : Sa,s'.rd = s.rd → s'.n = s.n → s'.sv = s.sv → s'.lp = s.lp → s'.ow = s.ow → s'.vc = s.vc → (∀ t ∈ opReads ops o,lkT t s'.ts = lkT t (appAll ops s L1).ts) →
  (∀ nm,H e.i nm = false → lookN nm s'.bx = lookN nm (appAll ops s L1).bx) → (∀ nm ∈ fr e.i,s'.refs nm = false) →
  ∀ k' : Sa → Prop,(∀ s1,Eqv s1 (appE ops s' e) → k' s1) → evOps P (sems P) p ops [o] s' k'
structure Mix (P : Program) (p : Name) (ops : Array Oper) (s : Sa) (L : List Eff) (pre : Nat → List Nat) (H : Nat → Name → Bool) (fr : Nat → List Name) : Prop where
 nodup : (L.map (·.i)).Nodup
 cov : ∀ j,j < ops.size → ∃ e ∈ L,e.i = j
 preOK : ∀ e ∈ L,∀ j ∈ pre e.i,j ∈ aftOf ops e.i ∨ ∃ q ∈ aftOf ops e.i,j ∈ pre q
 ord : ∀ L1 e L2,L = L1 ++ e :: L2 → (∀ j ∈ pre e.i,∃ x ∈ L1,x.i = j) ∧ ∀ j ∈ aftOf ops e.i,∃ x ∈ L1,x.i = j
 dst : ∀ e ∈ L,∀ x ∈ L,e.i ≠ x.i → x.i ∉ pre e.i → e.i ∉ pre x.i → ∀ t,dstOf ops e.i = some t → dstOf ops x.i ≠ some t
 rdw : ∀ e ∈ L,∀ x ∈ L,e.i ≠ x.i → x.i ∉ pre e.i → e.i ∉ pre x.i → ∀ t,dstOf ops x.i = some t → t ∉ readsOf ops e.i
 hid : ∀ e ∈ L,∀ x ∈ L,e.i ≠ x.i → x.i ∉ pre e.i → e.i ∉ pre x.i → ∀ nm,writes nm x = true → H e.i nm = true
 wr : ∀ e ∈ L,∀ x ∈ L,e.i ≠ x.i → x.i ∉ pre e.i → e.i ∉ pre x.i → ∀ nm,writes nm e = true → writes nm x = false
 frs : ∀ e ∈ L,∀ nm ∈ fr e.i,s.refs nm = false ∧ ∀ x ∈ L,e.i ≠ x.i → e.i ∉ pre x.i → x.v.refs nm = false ∧ ∀ y ∈ x.w,y.2.refs nm = false
 fact : ∀ L1 e L2,L = L1 ++ e :: L2 → Fact P p ops s H fr L1 e
theorem lastE_app {nm : Name} {A B : List Eff} : lastE nm (A ++ B) = (match lastE nm B with | some c=>some c | none=>lastE nm A):=by
 induction A with
 | nil=>simp only [List.nil_append,lastE]; cases lastE nm B <;> rfl
 | cons e A ih=>simp only [List.cons_append,lastE,ih]; cases lastE nm B <;> rfl
theorem lastT_app {t : Nat} {A B : List Eff} : lastT ops t (A ++ B) = (match lastT ops t B with | some c=>some c | none=>lastT ops t A):=by
 induction A with
 | nil=>simp only [List.nil_append,lastT]; cases lastT ops t B <;> rfl
 | cons e A ih=>simp only [List.cons_append,lastT,ih]; cases lastT ops t B <;> rfl
theorem lastE_none {nm : Name} {B : List Eff} (h : ∀ x ∈ B,writes nm x = false) : lastE nm B = none:=by
 rw [lastE_filter,List.filter_eq_nil_iff.2 (fun x hx=>by rw [h x hx]; simp)]; rfl
theorem lastT_none {t : Nat} {B : List Eff} (h : ∀ x ∈ B,dstOf ops x.i ≠ some t) : lastT ops t B = none:=by
 rw [lastT_filter,List.filter_eq_nil_iff.2 (fun x hx=>by simp [putsT,h x hx])]; rfl
theorem prefix_filter {L1 L2 : List Eff} {e : Eff} (hn : ((L1 ++ e :: L2).map (·.i)).Nodup) : (L1 ++ e :: L2).filter (fun x=>decide (x.i ∈ L1.map (·.i))) = L1:=by
 rw [List.map_append,List.nodup_append] at hn
 rw [List.filter_append,List.filter_eq_self.2 (fun x hx=>by simpa using ⟨x,hx,rfl⟩),List.filter_eq_nil_iff.2 (fun x hx=>?_),List.append_nil]
 simp only [decide_eq_true_eq]
 intro hc
 exact hn.2.2 _ hc _ (List.mem_map_of_mem hx) rfl
end Go.Ab
namespace Go.Ab
open Go Go.RowKit
set_option linter.unusedVariables false
variable {P : Program} {a : Act} {w : World} {n : Nat} {Mo : Cells} {m : Mp} {s : Sa} {p : Name} {k : Sa → Prop} {Q : Exit → Act → World → Prop} {sv : List Act} {ops : Array Oper}
theorem mix_sound {ds : List Deferred} {L : List Eff} {pre : Nat → List Nat} {H : Nat → Name → Bool} {fr : Nat → List Name} (hM : Mix P p ops s L pre H fr) (hN : RegNext Mo m s ds sv w (fun s'=>Eqv s' (appAll ops s L)) Q) :
  ∀ (N : Nat) (D : Nat → Bool) (listed : Array Bool) (m' : Mp) (a' : Act) (w' : World),(L.filter fun e=>!D e.i).length = N → (∀ e ∈ L,D e.i = true → ∀ j ∈ pre e.i,D j = true) →
   Rel Mo m' (appAll ops s (L.filter fun e=>D e.i)) (a' :: sv) w' → Step m s w m' (appAll ops s (L.filter fun e=>D e.i)) w' → rdOf m' (appAll ops s (L.filter fun e=>D e.i)) = rdOf m s → a'.defers = ds → Listed ops listed (fun j=>D j = true) →
   wpAnyIn (Wd (rdOf m s)) n P .any ops Q N listed a' w':=by
 intro N
 induction N with
 | zero =>
  intro D listed m' a' w' hlen hclo hR hst hrd hds hlisted
  have hall : ∀ e ∈ L,D e.i = true:=fun e he=>by
   have:=List.eq_nil_of_length_eq_zero hlen
   have:=List.filter_eq_nil_iff.1 this e he
   simpa using this
  have e1 : (L.filter fun e=>D e.i) = L:=List.filter_eq_self.2 hall
  rw [e1] at hR hst hrd
  refine ⟨?_,hN m' _ a' w' (Eqv.refl _) hR hst hrd hds⟩
  refine List.eq_nil_iff_forall_not_mem.2 fun i hi=>?_
  obtain ⟨h1,h2,_⟩:=ready_inv hlisted hi
  obtain ⟨e,he,rfl⟩:=hM.cov i h1
  exact h2 (hall e he)
 | succ N ih =>
  intro D listed m' a' w' hlen hclo hR hst hrd hds hlisted
  refine ⟨fun hr=>?_,fun i hi=>?_⟩
  ·
   have hex : ∃ e ∈ L,D e.i = false:=by
    refine Classical.byContradiction fun hn=>?_
    have : (L.filter fun e=>!D e.i) = []:=List.filter_eq_nil_iff.2 fun e he=>by
     cases hd : D e.i
     ·exact absurd ⟨e,he,hd⟩ hn
     ·simp [hd]
    rw [this] at hlen; cases hlen
   obtain ⟨L1,e,L2,e1,e2,e3⟩:=first_in L (fun e=>D e.i = false) hex
   obtain ⟨o,ho,_⟩:=hM.fact L1 e L2 e1
   have : e.i ∈ Region.ready .any ops listed:=ready_intro hlisted ho (by rw [e2]; simp) (fun j hj=>by
    obtain ⟨x,hx,rfl⟩:=(hM.ord L1 e L2 e1).2 j (by simp only [aftOf,ho]; exact hj)
    refine ⟨?_,?_⟩
    ·obtain ⟨A,B,hAB⟩:=List.append_of_mem hx
     obtain ⟨o',ho',_⟩:=hM.fact A x (B ++ e :: L2) (by rw [e1,hAB]; simp)
     exact (Array.getElem?_eq_some_iff.1 ho').1
    ·have:=e3 x hx
     simpa using this)
   rw [hr] at this; cases this
  ·obtain ⟨hlt,hnD,o,ho,haft⟩:=ready_inv hlisted hi
   obtain ⟨e,he,rfl⟩:=hM.cov i hlt
   have hDe : D e.i = false:=by simpa using hnD
   obtain ⟨L1,L2,hL⟩:=List.append_of_mem he
   have hnd : ((L1 ++ e :: L2).map (·.i)).Nodup:=by rw [← hL]; exact hM.nodup
   have hnd':=hnd
   rw [List.map_append,List.nodup_append,List.map_cons,List.nodup_cons] at hnd'
   obtain ⟨n1,⟨n2,n3⟩,n4⟩:=hnd'
   have hpreD : ∀ j ∈ pre e.i,D j = true:=by
    have aD : ∀ q ∈ aftOf ops e.i,D q = true:=fun q hq=>by
     have hq' : q ∈ aft o:=by simpa only [aftOf,ho] using hq
     have h1:=haft q hq'
     have hqs : q < ops.size:=by
      have : q < listed.size:=by
       rcases Nat.lt_or_ge q listed.size with h' | h'
       ·exact h'
       ·simp [Array.getElem?_eq_none h'] at h1
      rw [← hlisted.1]; exact this
     exact (hlisted.false' hqs).1 h1
    intro j hj
    rcases hM.preOK e he j hj with h | ⟨q,hq,hjq⟩
    ·exact aD j h
    ·obtain ⟨x,hx,rfl⟩:=(hM.ord L1 e L2 hL).2 q hq
     exact hclo x (by rw [hL]; simp [hx]) (aD _ hq) j hjq
   have in1 : ∀ x ∈ L,x.i ≠ e.i → (x.i ∈ L1.map (·.i) ↔ x ∈ L1):=fun x hx hne=>by
    refine ⟨fun h=>?_,fun h=>List.mem_map_of_mem h⟩
    obtain ⟨y,hy,hyx⟩:=List.mem_map.1 h
    have : x = y:=by
     have hin : ∀ {l : List Eff},(l.map (·.i)).Nodup → ∀ u ∈ l,∀ v ∈ l,u.i = v.i → u = v:=by
      intro l hl u hu v hv huv
      obtain ⟨a,ha,rfl⟩:=List.getElem_of_mem hu
      obtain ⟨b,hb,rfl⟩:=List.getElem_of_mem hv
      have:=(List.getElem_inj (xs:=l.map (·.i)) (h₀:=by simpa using ha) (h₁:=by simpa using hb) hl).1 (by simpa using huv)
      subst this; rfl
     exact hin hM.nodup x hx y (by rw [hL]; simp [hy]) hyx.symm
    rw [this]; exact hy
   have behind : ∀ x ∈ L,e.i ∈ pre x.i → D x.i = false ∧ x ∉ L1:=fun x hx h=>by
    refine ⟨?_,fun hx1=>?_⟩
    ·cases hd : D x.i with
     | false=>rfl
     | true=>have:=hclo x hx hd _ h; rw [hDe] at this; cases this
    ·obtain ⟨A,B,hAB⟩:=List.append_of_mem hx1
     obtain ⟨y,hy,hye⟩:=(hM.ord A x (B ++ e :: L2) (by rw [hL,hAB]; simp)).1 _ h
     exact n4 _ (List.mem_map_of_mem (by rw [hAB]; simp [hy])) _ List.mem_cons_self hye
   have ahead : ∀ x ∈ L,x.i ∈ pre e.i → D x.i = true ∧ x.i ∈ L1.map (·.i):=fun x hx h =>
    ⟨hpreD _ h,by obtain ⟨y,hy,hyx⟩:=(hM.ord L1 e L2 hL).1 _ h; exact List.mem_map.2 ⟨y,hy,hyx⟩⟩
   have agree : ∀ (u : Eff → Bool),(∀ x ∈ L,u x = true → e.i ≠ x.i → x.i ∉ pre e.i → e.i ∉ pre x.i → False) → (L.filter fun x=>D x.i).filter u = L1.filter u:=by
    intro u hu
    have h0:=prefix_filter hnd
    rw [← hL] at h0
    rw [← h0]
    refine (filter_same fun x hx hux=>?_).trans (by rw [h0])
    by_cases hxe : e.i = x.i
    ·rw [← hxe,hDe]
     symm
     simp only [decide_eq_false_iff_not]
     intro hc
     exact n4 _ hc _ List.mem_cons_self rfl
    ·by_cases h1 : x.i ∈ pre e.i
     ·obtain ⟨g1,g2⟩:=ahead x hx h1
      rw [g1]; exact (decide_eq_true g2).symm
     ·by_cases h2 : e.i ∈ pre x.i
      ·obtain ⟨g1,g2⟩:=behind x hx h2
       rw [g1]; symm
       simp only [decide_eq_false_iff_not]
       rw [in1 x hx (fun e0=>hxe e0.symm)]
       exact g2
      ·exact (hu x hx hux hxe h1 h2).elim
   obtain ⟨o',ho',hfact⟩:=hM.fact L1 e L2 hL
   rw [ho] at ho'; cases ho'
   obtain ⟨f1,f2,f3,f4,f5⟩:=appAll_fields (ops:=ops) (s:=s) (L.filter fun x=>D x.i)
   let D' : Nat → Bool:=fun j=>D j || Nat.beq j e.i
   have hD' : ∀ x ∈ L,x.i ≠ e.i → D' x.i = D x.i:=fun x hx hne=>by
    have : Nat.beq x.i e.i = false:=by
     cases hb : Nat.beq x.i e.i
     ·rfl
     ·exact absurd (Nat.eq_of_beq_eq_true hb) hne
    simp only [D',this,Bool.or_false]
   have hDe' : D' e.i = true:=by simp [D',Nat.beq_refl]
   have out1 : ∀ x ∈ L1,x.i ≠ e.i:=fun x hx hc=>n4 _ (List.mem_map_of_mem hx) _ List.mem_cons_self hc
   have out2 : ∀ x ∈ L2,x.i ≠ e.i:=fun x hx hc=>n2 (by rw [← hc]; exact List.mem_map_of_mem hx)
   have s1 : (L.filter fun x=>D x.i) = (L1.filter fun x=>D x.i) ++ (L2.filter fun x=>D x.i):=by
    rw [hL,List.filter_append,List.filter_cons,if_neg (by rw [hDe]; simp)]
   have s2 : (L.filter fun x=>D' x.i) = (L1.filter fun x=>D x.i) ++ e :: (L2.filter fun x=>D x.i):=by
    rw [hL,List.filter_append,List.filter_cons,if_pos hDe']
    congr 1
    ·exact List.filter_congr fun x hx=>hD' x (by rw [hL]; simp [hx]) (out1 x hx)
    ·congr 1
     exact List.filter_congr fun x hx=>hD' x (by rw [hL]; simp [hx]) (out2 x hx)
   have late : ∀ x ∈ (L2.filter fun x=>D x.i),x ∈ L ∧ e.i ≠ x.i ∧ x.i ∉ pre e.i ∧ e.i ∉ pre x.i:=fun x hx=>by
    obtain ⟨h1,h2⟩:=List.mem_filter.1 hx
    have hxL : x ∈ L:=by rw [hL]; simp [h1]
    have hne : e.i ≠ x.i:=fun h=>out2 x h1 h.symm
    refine ⟨hxL,hne,fun h=>?_,fun h=>?_⟩
    ·have:=(ahead x hxL h).2
     exact n4 _ this _ (List.mem_cons_of_mem _ (List.mem_map_of_mem h1)) rfl
    ·rw [(behind x hxL h).1] at h2; cases h2
   have hE : Eqv (appE ops (appAll ops s (L.filter fun x=>D x.i)) e) (appAll ops s (L.filter fun x=>D' x.i)):=by
    obtain ⟨g1,g2,g3,g4,g5,g6⟩:=appE_fields (ops:=ops) (s:=appAll ops s (L.filter fun x=>D x.i)) e
    obtain ⟨q1,q2,q3,q4,q5⟩:=appAll_fields (ops:=ops) (s:=s) (L.filter fun x=>D' x.i)
    refine ⟨g1.trans (f1.trans q1.symm),g2.trans (f2.trans q2.symm),g3.trans (f3.trans q3.symm),fun nm=>?_,g4.trans (f4.trans q4.symm),g5.trans (f5.trans q5.symm),fun t=>?_,(appE_vc e).trans ((appAll_vc _).trans (appAll_vc _).symm)⟩
    ·rw [g6,look_addAll,look_appAll,look_appAll,s1,s2,lastE_app,lastE_app,lastE]
     cases hw : lastW nm e.w with
     | some c =>
      have:=lastE_none (nm:=nm) (B:=L2.filter fun x=>D x.i) fun x hx=>by
       obtain ⟨h1,h2,h3,h4⟩:=late x hx
       exact hM.wr e he x h1 h2 h3 h4 nm (by simp [writes,hw])
      rw [this]
     | none=>cases lastE nm (L2.filter fun x=>D x.i) <;> rfl
    ·rw [lk_appE,lk_appAll,lk_appAll,s1,s2,lastT_app,lastT_app,lastT]
     split
     ·rename_i hd
      have:=lastT_none (ops:=ops) (t:=t) (B:=L2.filter fun x=>D x.i) fun x hx=>by
       obtain ⟨h1,h2,h3,h4⟩:=late x hx
       exact hM.dst e he x h1 h2 h3 h4 t hd
      rw [this]
     ·cases lastT ops t (L2.filter fun x=>D x.i) <;> rfl
   have hev : evOps P (sems P) p ops [o] (appAll ops s (L.filter fun x=>D x.i)) (fun s1=>Eqv s1 (appAll ops s (L.filter fun x=>D' x.i))):=by
    refine hfact _ f1 f2 f3 f4 f5 (appAll_vc _) (fun t ht=>?_) (fun nm hnm=>?_) (fun nm hnm=>?_) _ fun s1 h=>h.trans hE
    ·rw [lk_appAll,lk_appAll,lastT_filter,agree (putsT ops t) (fun x hx hux h1 h2 h3=>?_),← lastT_filter]
     exact hM.rdw e he x hx h1 h2 h3 t (by simpa [putsT] using hux) (by simpa only [readsOf,ho] using ht)
    ·rw [look_appAll,look_appAll,lastE_filter,agree (writes nm) (fun x hx hux h1 h2 h3=>?_),← lastE_filter]
     have:=hM.hid e he x hx h1 h2 h3 nm hux
     rw [hnm] at this; cases this
    ·obtain ⟨h1,h2⟩:=hM.frs e he nm hnm
     refine refs_appAll h1 fun x hx=>?_
     obtain ⟨hx1,hx2⟩:=List.mem_filter.1 hx
     refine h2 x hx1 (fun h=>?_) fun h=>?_
     ·rw [← h,hDe] at hx2; cases hx2
     ·rw [(behind x hx1 h).1] at hx2; cases hx2
   rw [← hrd]
   refine op1_sound ho hR ?_ hev
   intro m4 s4 a4 w4 hk4 hR4 hst4 hrd4 hds4
   obtain ⟨m5,hR5,hst5,hrd5⟩:=hk4.wk Mo m4 _ w4 hR4
   rw [hrd]
   refine ih D' _ m5 a4 w4 ?_ ?_ hR5 ((hst.trans hst4).trans hst5) (hrd5.trans (hrd4.trans hrd)) (hds4.trans hds) ((hlisted.set e.i).congr fun j=>?_)
   ·have h1 : (L.filter fun x=>!D x.i).length = (L1.filter fun x=>!D x.i).length + ((L2.filter fun x=>!D x.i).length + 1):=by
     rw [hL,List.filter_append,List.filter_cons,if_pos (by rw [hDe]; rfl),List.length_append,List.length_cons]
    have h2 : (L.filter fun x=>!D' x.i).length = (L1.filter fun x=>!D x.i).length + (L2.filter fun x=>!D x.i).length:=by
     rw [hL,List.filter_append,List.filter_cons,if_neg (by rw [hDe']; simp),List.length_append]
     congr 2
     ·exact List.filter_congr fun x hx=>by rw [hD' x (by rw [hL]; simp [hx]) (out1 x hx)]
     ·exact List.filter_congr fun x hx=>by rw [hD' x (by rw [hL]; simp [hx]) (out2 x hx)]
    omega
   ·intro x hx hdx j hj
    by_cases hxe : x.i = e.i
    ·rw [hxe] at hj
     show (D j || Nat.beq j e.i) = true
     rw [hpreD j hj]; rfl
    ·rw [hD' x hx hxe] at hdx
     show (D j || Nat.beq j e.i) = true
     rw [hclo x hx hdx j hj]; rfl
   ·show (D j = true ∨ j = e.i) ↔ (D j || Nat.beq j e.i) = true
    rw [Bool.or_eq_true,Nat.beq_eq]
end Go.Ab
namespace Go.Ab
open Go Go.RowKit
set_option linter.unusedVariables false
set_option linter.unusedSimpArgs false
variable {P : Program} {a : Act} {w : World} {n : Nat} {Mo : Cells} {m : Mp} {s : Sa} {p : Name} {Q : Exit → Act → World → Prop} {sv : List Act} {ops : Array Oper}
def hide (H : List Name) (s : Sa) : Sa:={ s with bx:=s.bx.filter fun x=>!H.contains x.1 }
theorem look_hide {H : List Name} {nm : Name} : ∀ {l : List (Name × V)},lookN nm (l.filter fun x=>!H.contains x.1) = if H.contains nm then none else lookN nm l
 | []=>by simp [lookN]
 | x :: l=>by
  obtain ⟨a,b⟩:=x
  simp only [List.filter_cons]
  split
  ·rename_i h
   simp only [lookN]
   split
   ·rename_i e; subst e
    rw [if_neg (by simpa using h)]
   ·exact look_hide
  ·rename_i h
   rw [look_hide]
   simp only [lookN]
   split
   ·rfl
   ·rename_i hn
    split
    ·rename_i e; subst e
     simp only [Bool.not_eq_true',Bool.not_eq_false] at h
     exact absurd h hn
    ·rfl
def lkD (d : Option Tmp) (s : Sa) : V:=match d with | some t=>lkT t s.ts | none=>.dead
def evMix (P : Program) (p : Name) (ops : Array Oper) (H : Nat → List Name) : List Nat → List Eff → Sa → (List Eff → Sa → Prop) → Prop
 | [],L,s,k=>k L s
 | i :: rest,L,s,k=>match ops[i]? with
  | some o=>match o.op with
   | .alloc ty=>match o.dst,o.guard with
    | some t,none=>t < s.n ∧ (H i).contains (t :: p) = false ∧ (tzero P ty).notNil = true ∧ (tzero P ty).cells.length = tsz P ty ∧ isCells (tzero P ty) = true ∧ lookN (t :: p) s.bx = none ∧
      evMix P p ops H rest (L ++ [⟨i,.ptr (t :: p) 0,[(t :: p,tzero P ty)]⟩]) (appE ops s ⟨i,.ptr (t :: p) 0,[(t :: p,tzero P ty)]⟩) k
    | _,_=>False
   | .store ty x y=>match o.dst,o.guard,s.get x with
    | none,none,.ptr nm off=>match lookN nm s.bx with
     | some c=>(H i).contains nm = false ∧ (s.get y).notNil = true ∧ isCells (s.get y) = true ∧ tsz P ty ≠ 0 ∧ (s.get y).cells.length = tsz P ty ∧ off + tsz P ty ≤ c.cells.length ∧
       evMix P p ops H rest (L ++ [⟨i,.dead,[(nm,storeBox off (s.get y) c)]⟩]) (appE ops s ⟨i,.dead,[(nm,storeBox off (s.get y) c)]⟩) k
     | none=>False
    | _,_,_=>False
   | _=>calm o.op = true ∧ o.dst.isSome = true ∧ nilOK s o.op = true ∧ evOps P (semsP P) p ops [o] (hide (H i) s) fun s' =>
     evMix P p ops H rest (L ++ [⟨i,lkD o.dst s',[]⟩]) { s' with bx:=s.bx } k
  | none=>False
def frOf (ops : Array Oper) (p : Name) (i : Nat) : List Name:=match ops[i]? with
 | some o=>match o.op,o.dst with
  | .alloc _,some t=>[t :: p]
  | _,_=>[]
 | none=>[]
theorem hide_get {H : List Name} (x : Operand) : (hide H s).get x = s.get x:=by cases x <;> rfl
theorem look_set {nm nm' : Name} {c : V} : ∀ {l : List (Name × V)} {c0 : V},lookN nm l = some c0 → lookN nm' (setN nm c l) = if nm = nm' then some c else lookN nm' l
 | [],c0,h=>by simp [lookN] at h
 | x :: l,c0,h=>by
  obtain ⟨a,b⟩:=x
  simp only [lookN] at h
  simp only [setN]
  split
  ·rename_i e; subst e
   simp only [lookN]
   split <;> rfl
  ·rename_i e
   rw [if_neg e] at h
   simp only [lookN,look_set h]
   split
   ·rename_i e2; subst e2; rw [if_neg (fun e3=>e e3.symm)]
   ·rfl
theorem evMix_run {H : Nat → List Name} {s0 : Sa} {k : List Eff → Sa → Prop} : ∀ (l : List Nat) {L0 : List Eff} {s : Sa},evMix P p ops H l L0 s k → Eqv s (appAll ops s0 L0) →
  ∃ L' s',L'.map (·.i) = l ∧ k (L0 ++ L') s' ∧ Eqv s' (appAll ops s0 (L0 ++ L')) ∧ ∀ L1 e L2,L' = L1 ++ e :: L2 → Fact P p ops s0 (fun i nm=>(H i).contains nm) (frOf ops p) (L0 ++ L1) e
 | [],L0,s,h,hE=>⟨[],s,rfl,by simpa [evMix] using h,by simpa using hE,fun L1 e L2 h=>by simp at h⟩
 | i :: rest,L0,s,h,hE=>by
  have f0:=appAll_fields (ops:=ops) (s:=s0) L0
  have fin : ∀ (e : Eff) (s1 : Sa),e.i = i → evMix P p ops H rest (L0 ++ [e]) s1 k → Eqv s1 (appE ops s e) → Fact P p ops s0 (fun i nm=>(H i).contains nm) (frOf ops p) L0 e →
    ∃ L' s',L'.map (·.i) = i :: rest ∧ k (L0 ++ L') s' ∧ Eqv s' (appAll ops s0 (L0 ++ L')) ∧ ∀ L1 e L2,L' = L1 ++ e :: L2 → Fact P p ops s0 (fun i nm=>(H i).contains nm) (frOf ops p) (L0 ++ L1) e:=by
   intro e s1 hi hr h1 hf
   have hE2 : Eqv (appE ops s e) (appE ops (appAll ops s0 L0) e):=by
    unfold appE
    have h0 : Eqv ({ s with bx:=addAll e.w s.bx } : Sa) ({ appAll ops s0 L0 with bx:=addAll e.w (appAll ops s0 L0).bx } : Sa) :=
     ⟨hE.rd,hE.n,hE.sv,fun nm=>by simp only [look_addAll,hE.bx nm],hE.lp,hE.ow,hE.ts,hE.vc⟩
    exact h0.put _ _
   obtain ⟨L',s',g1,g2,g3,g4⟩:=evMix_run rest hr (by rw [appAll_append]; exact h1.trans hE2)
   refine ⟨e :: L',s',by simp [hi,g1],by simpa using g2,by simpa using g3,fun L1 x L2 hx=>?_⟩
   cases L1 with
   | nil =>
    simp only [List.nil_append,List.cons.injEq] at hx
    obtain ⟨rfl,_⟩:=hx
    simpa using hf
   | cons y L1 =>
    simp only [List.cons_append,List.cons.injEq] at hx
    obtain ⟨rfl,hx⟩:=hx
    have:=g4 L1 x L2 hx
    simpa using this
  simp only [evMix] at h
  split at h
  ·rename_i o ho
   split at h
   ·rename_i ty hop
    split at h
    ·rename_i t hd hg
     obtain ⟨h1,h2,h3,h4,h5,h6,h7⟩:=h
     refine fin _ _ rfl h7 (Eqv.refl _) ⟨o,ho,fun s' e1 e2 e3 e4 e5 e9 e6 e7 e8 k' hk'=>?_⟩
     simp only [evOps,hd,hg,evOp,hop,Option.getD_some,claim_notNil h3]
     refine ⟨by rw [e2,← f0.2.1,← hE.n]; exact h1,h4,h5,e8 _ (by simp [frOf,ho,hop,hd]),by rw [e7 _ h2,← hE.bx]; exact h6,hk' _ ?_⟩
     have : dstOf ops i = some t:=(dstOf_eq ho).trans hd
     simp only [appE,this]
     exact Eqv.refl _
    ·exact h.elim
   ·rename_i ty x y hop
    split at h
    ·rename_i nm off hd hg hx
     split at h
     ·rename_i c hc
      obtain ⟨h1,h2,h3,h4,h5,h6,h7⟩:=h
      refine fin _ _ rfl h7 (Eqv.refl _) ⟨o,ho,fun s' e1 e2 e3 e4 e5 e9 e6 e7 e8 k' hk'=>?_⟩
      have hr:=reads_get (ops:=ops) (s:=s) (s':=s') (o:=o) (fun t ht=>(e6 t ht).trans (hE.ts t).symm)
      have gx:=hr x (by simp [hop,Op.operands])
      have gy:=hr y (by simp [hop,Op.operands])
      have gb : lookN nm s'.bx = some c:=by rw [e7 _ h1,← hE.bx]; exact hc
      simp only [evOps,hd,hg,evOp,hop,gx,gy,hx,gb,claim_notNil h2]
      refine ⟨trivial,h3,h4,h5,h6,hk' _ ?_⟩
      have : dstOf ops i = none:=(dstOf_eq ho).trans hd
      simp only [appE,this,Sa.put]
      refine ⟨rfl,rfl,rfl,fun nm'=>?_,rfl,rfl,fun _=>rfl,rfl⟩
      simp only [look_set gb,addAll,List.foldl,addN,lookN]
     ·exact h.elim
    ·exact h.elim
   ·obtain ⟨h1,h2,h3,h4⟩:=h
    have hn : nilOK (hide (H i) s) o.op = true:=by
     rw [← h3]
     cases o.op <;> simp only [nilOK,hide_get]
    obtain ⟨v,s1,hl,hk,hf⟩:=evSeg_op ho h1 hn h4
    obtain ⟨d,hd⟩:=Option.isSome_iff_exists.1 h2
    have hv : lkD o.dst (s1.put o.dst v) = v:=by rw [hd]; simp [lkD,Sa.put,lkT_setT']
    rw [hv] at hk
    have hdst : dstOf ops i = o.dst:=dstOf_eq ho
    refine fin ⟨i,v,[]⟩ _ rfl hk ?_ ?_
    ·simp only [appE,hdst,addAll,List.foldl]
     refine ⟨?_,?_,?_,fun nm=>?_,?_,?_,fun t=>?_,?_⟩
     ·rw [hd]; exact hl.rd
     ·rw [hd]; exact hl.n
     ·rw [hd]; exact hl.sv
     ·rw [hd]; rfl
     ·rw [hd]; exact hl.lp
     ·rw [hd]; exact hl.ow
     ·rw [hd]; simp only [Sa.put,lkT_setT',hl.ts t]; rfl
     ·rw [hd]; exact hl.vc
    ·obtain ⟨o',ho',hf⟩:=hf
     rw [ho] at ho'; cases ho'
     refine ⟨o,ho,fun s' e1 e2 e3 e4 e5 e9 e6 e7 e8 k' hk'=>hf s' ⟨fun nm c hc=>?_,fun nm c hc=>by rw [e9.trans ((appAll_vc L0).symm.trans hE.vc.symm)]; exact hc⟩ (by rw [e2,← f0.2.1,← hE.n]; rfl) (fun t ht=>(e6 t ht).trans (hE.ts t).symm) k' fun s2 hs2=>hk' _ ?_⟩
     ·simp only [hide,look_hide] at hc
      split at hc
      ·cases hc
      ·rename_i hh
       rw [e7 nm (by simpa using hh),← hE.bx]; exact hc
     ·simp only [appE,hdst,addAll,List.foldl]
      exact (hs2.put o.dst v).eqv
  ·exact h.elim
end Go.Ab
