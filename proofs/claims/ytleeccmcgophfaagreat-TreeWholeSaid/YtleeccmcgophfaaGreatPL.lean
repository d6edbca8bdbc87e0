import Derived.Test.YtleeccmcgophfaaGreatPK
set_option linter.all false
namespace Go.Fn
set_option linter.unusedVariables false
open Go Go.Ab Go.Tx
structure Whole (l:List D6) (root:Int) : Prop where
 few:l.length ≤ 16
 ids:l.Pairwise (fun a b=>a.1 < b.1)
 quo:∀ o ∈ l,1 ≤ quo o ∧ quo o ≤ 4096
 dat:∀ o ∈ l,(dat o).length ≤ 300
 lns:∀ o ∈ l,(lnk o).length ≤ 70
 own:∀ o ∈ l,o.2.1 ≠ 2 → lnk o=[] ∧ pages o ≤ Fn.quo o
 lnk:∀ o ∈ l,(lnk o).Pairwise (· < ·)
 has:∀ o ∈ l,∀ x ∈ Fn.lnk o,∃ y ∈ l,y.1=x
 uses:∀ o ∈ l,o.2.1=2 → usesF l (pages o) (Fn.lnk o) ≤ Fn.quo o
 top:∃ r ∈ l,r.1=root
 placed:∀ o ∈ l,placedB l root o=true
def tot:List Int → Int
 | []=>0
 | a :: l=>a + tot l
theorem tot_app:∀ a b:List Int,tot (a ++ b)=tot a + tot b
 | [],b=>by simp [tot]
 | x :: a,b=>by simp only [List.cons_append,tot,tot_app a b]; omega
theorem tot_sub (f:Int → Int) (hf:∀ x,0 ≤ f x) : ∀ (A L:List Int),A.Nodup → (∀ x ∈ A,x ∈ L) → tot (A.map f) ≤ tot (L.map f)
 | [],L,_,_=>by
  have:∀ L:List Int,0 ≤ tot (L.map f):=by
   intro L
   induction L with
   | nil=>simp [tot]
   | cons a L ih=>have:=hf a; simp only [List.map_cons,tot]; omega
  simpa [tot] using this L
 | a :: A,L,h,hs=>by
  obtain ⟨s,t,e⟩:=List.append_of_mem (hs a (by simp))
  obtain ⟨hn,h2⟩:=List.nodup_cons.1 h
  have ih:=tot_sub f hf A (s ++ t) h2 (fun x hx=>by
   have:=hs x (by simp [hx])
   rw [e] at this
   have hne:x ≠ a:=fun e=>hn (e ▸ hx)
   simp only [List.mem_append,List.mem_cons] at this ⊢
   rcases this with h | h | h
   ·exact .inl h
   ·exact absurd h hne
   ·exact .inr h)
  rw [List.map_append,tot_app] at ih
  rw [e,List.map_append,tot_app]
  simp only [List.map_cons,tot]
  omega
theorem len_sub:∀ (A L:List Int),A.Nodup → (∀ x ∈ A,x ∈ L) → A.length ≤ L.length
 | [],L,_,_=>by simp
 | a :: A,L,h,hs=>by
  obtain ⟨s,t,e⟩:=List.append_of_mem (hs a (by simp))
  obtain ⟨hn,h2⟩:=List.nodup_cons.1 h
  have ih:=len_sub A (s ++ t) h2 (fun x hx=>by
   have:=hs x (by simp [hx])
   rw [e] at this
   have hne:x ≠ a:=fun e=>hn (e ▸ hx)
   simp only [List.mem_append,List.mem_cons] at this ⊢
   rcases this with h | h | h
   ·exact .inl h
   ·exact absurd h hne
   ·exact .inr h)
  rw [e]
  simp only [List.length_append,List.length_cons] at ih ⊢
  omega
theorem findO_mem:∀ {l:List D6},l.Pairwise (fun a b=>a.1 < b.1) → ∀ o ∈ l,findO l o.1=(o,true)
 | [],_,o,h=>by cases h
 | a :: l,hp,o,h=>by
  obtain ⟨h1,h2⟩:=List.pairwise_cons.1 hp
  rcases List.mem_cons.1 h with rfl | h
  ·simp [findO]
  ·have:=h1 o h
   have hne:(a.1 == o.1)=false:=by simp; omega
   have ih:=findO_mem h2 o h
   unfold findO at ih ⊢
   rw [List.find?_cons,hne]
   exact ih
theorem same_of {l:List D6} (hp:l.Pairwise (fun a b=>a.1 < b.1)) {x y:D6} (hx:x ∈ l) (hy:y ∈ l) (e:x.1=y.1) : x=y:=by
 have h1:=findO_mem hp x hx
 have h2:=findO_mem hp y hy
 rw [e,h2] at h1
 exact (congrArg Prod.fst h1).symm
theorem findO_none {l:List D6} {id:Int} (h:∀ o ∈ l,o.1 ≠ id) : findO l id=(Ty.zero t6,false):=by
 have:l.find? (fun o=>o.1 == id)=none:=List.find?_eq_none.2 fun o ho=>by simpa using h o ho
 unfold findO
 rw [this]
def quoF (l:List D6) (id:Int) : Int:=quo (findO l id).1
theorem usesF_eq {l:List D6} (hb:∀ id,0 ≤ quoF l id ∧ quoF l id ≤ 4096) : ∀ (ids:List Int) (n:Int),0 ≤ n → n + ids.length * 4096 ≤ 4611686018427387904 → usesF l n ids=n + tot (ids.map (quoF l))
 | [],n,_,_=>by simp [usesF,tot]
 | id :: ids,n,h0,hn=>by
  have h1:=hb id
  simp only [List.length_cons] at hn
  have ih:=usesF_eq hb ids (n + quoF l id) (by omega) (by omega)
  have hw:IntKind.wrap .i64 (n + quoF l id)=n + quoF l id:=wrap_i64 (by omega) (by omega)
  unfold usesF at ih ⊢
  rw [List.foldl_cons,show n + quo (findO l id).1=n + quoF l id from rfl,hw,ih]
  simp only [List.map_cons,tot]
  omega
def useS (l:List D6) (o:D6) : Int:=pages o + tot ((lnk o).map (quoF l))
theorem mem_holders {l:List D6} {id d:Int}:d ∈ holders l id ↔ ∃ o ∈ l,id ∈ lnk o ∧ o.1=d:=by
 simp only [holders,List.mem_map,List.mem_filter]
 constructor
 ·rintro ⟨o,⟨h1,h2⟩,h3⟩; exact ⟨o,h1,by simpa using h2,h3⟩
 ·rintro ⟨o,h1,h2,h3⟩; exact ⟨o,⟨h1,by simpa using h2⟩,h3⟩
theorem held {l:List D6} {root:Int} (h:Whole l root) {o:D6} (ho:o ∈ l) (hr:o.1 ≠ root) : holders l o.1 ≠ []:=by
 have:=h.placed o ho
 unfold placedB at this
 simp only [if_neg hr] at this
 intro e
 rw [e] at this
 simp at this
inductive Chain (l:List D6) : Int → List Int → Prop
 | nil {id:Int}:holders l id=[] → Chain l id []
 | cons {id d:Int} {r c:List Int}:holders l id=d :: r → Chain l d c → Chain l id (d :: c)
theorem climb_chain (l:List D6) : ∀ (k:Nat) (id:Int) (acc:List Int),climb l k id acc=[] ∨ ∃ c,Chain l id c ∧ climb l k id acc=acc ++ c ∧ c.length < k
 | 0,id,acc=>.inl rfl
 | k + 1,id,acc=>by
  rw [climb]
  cases hh:holders l id with
  | nil=>exact .inr ⟨[],.nil hh,by simp,by simp⟩
  | cons d r =>
   rcases climb_chain l k d (acc ++ [d]) with h | ⟨c,h1,h2,h3⟩
   ·exact .inl h
   ·exact .inr ⟨d :: c,.cons hh h1,by simp only [h2]; simp,by simp; omega⟩
theorem Chain.det {l:List D6} {id:Int} {c c' : List Int} (h:Chain l id c) (h' : Chain l id c') : c=c':=by
 induction h generalizing c' with
 | nil e =>
  cases h' with
  | nil=>rfl
  | cons e'=>rw [e] at e'; cases e'
 | cons e h ih =>
  cases h' with
  | nil e'=>rw [e] at e'; cases e'
  | cons e' h'=>rw [e] at e'; cases e'; rw [ih h']
theorem Chain.under {l:List D6} {id:Int} {c:List Int} (h:Chain l id c) : ∀ x ∈ c,∃ c',Chain l x c' ∧ c'.length < c.length:=by
 induction h with
 | nil=>intro x hx; cases hx
 | cons e h ih =>
  intro x hx
  rcases List.mem_cons.1 hx with rfl | hx
  ·exact ⟨_,h,by simp⟩
  ·obtain ⟨c',h1,h2⟩:=ih x hx
   exact ⟨c',h1,by simp; omega⟩
theorem Chain.nodup {l:List D6} {id:Int} {c:List Int} (h:Chain l id c) : (id :: c).Nodup:=by
 induction h with
 | nil=>simp
 | cons e h ih =>
  refine List.nodup_cons.2 ⟨fun hm=>?_,ih⟩
  have h':=Chain.cons e h
  obtain ⟨c',h1,h2⟩:=h'.under _ hm
  rw [h1.det h'] at h2
  exact Nat.lt_irrefl _ h2
theorem Chain.mem {l:List D6} {id:Int} {c:List Int} (h:Chain l id c) : ∀ x ∈ c,∃ o ∈ l,o.1=x:=by
 induction h with
 | nil=>intro x hx; cases hx
 | cons e h ih =>
  intro x hx
  rcases List.mem_cons.1 hx with rfl | hx
  ·obtain ⟨o,ho,_,e'⟩:=mem_holders.1 (by rw [e]; exact List.mem_cons_self:x ∈ holders l _)
   exact ⟨o,ho,e'⟩
  ·exact ih x hx
theorem Chain.len {l:List D6} {o:D6} (ho:o ∈ l) {c:List Int} (h:Chain l o.1 c) : c.length + 1 ≤ l.length:=by
 have:=len_sub (o.1 :: c) (l.map (·.1)) h.nodup (by
  intro x hx
  rcases List.mem_cons.1 hx with rfl | hx
  ·exact List.mem_map.2 ⟨o,ho,rfl⟩
  ·obtain ⟨y,hy,e⟩:=h.mem x hx
   exact List.mem_map.2 ⟨y,hy,e⟩)
 simpa using this
end Go.Fn
namespace Go.Fn
set_option linter.unusedVariables false
open Go Go.Ab Go.Tx
def lowB (ks:List Int) (t:Int) : Nat:=(ks.filter fun k=>decide (k < t)).length
theorem lowB_le (ks:List Int) (t:Int) : lowB ks t ≤ ks.length:=List.length_filter_le _ _
theorem lowB_lt:∀ {ks:List Int},ks.Pairwise (· < ·) → ∀ (t:Int) (m:Nat) (v:Int),ks[m]? = some v → (v < t ↔ m < lowB ks t)
 | [],_,t,m,v,h=>by simp at h
 | k :: ks,hp,t,m,v,h=>by
  obtain ⟨h1,h2⟩:=List.pairwise_cons.1 hp
  by_cases hk:k < t
  ·have e:lowB (k :: ks) t=lowB ks t + 1:=by simp [lowB,List.filter_cons,hk]
   rw [e]
   cases m with
   | zero=>simp at h; subst h; simp [hk]
   | succ m =>
    have:=lowB_lt h2 t m v (by simpa using h)
    rw [this]; omega
  ·have e0:lowB (k :: ks) t=0:=by
    have:∀ x ∈ k :: ks,¬ x < t:=by
     intro x hx
     rcases List.mem_cons.1 hx with rfl | hx
     ·exact hk
     ·have:=h1 x hx; omega
    unfold lowB
    rw [List.filter_eq_nil_iff.2 (by intro x hx; simpa using this x hx)]
    rfl
   rw [e0]
   have hv:v ∈ k :: ks:=List.mem_of_getElem? h
   constructor
   ·intro hv'
    rcases List.mem_cons.1 hv with rfl | hx
    ·exact absurd hv' hk
    ·have:=h1 v hx; omega
   ·intro h; omega
theorem lowB_mem {ks:List Int} (hp:ks.Pairwise (· < ·)) {t v:Int} (h:ks[lowB ks t]? = some v) : t ∈ ks ↔ v=t:=by
 constructor
 ·intro hm
  obtain ⟨m,hm⟩:=List.getElem?_of_mem hm
  have h1:=lowB_lt hp t m t hm
  have h2:=lowB_lt hp t _ v h
  have h3 : ¬ v < t:=fun hc=>by have:=h2.1 hc; omega
  have h4 : ¬ m < lowB ks t:=fun hc=>by have:=h1.2 hc; omega
  by_cases he:m=lowB ks t
  ·rw [he,h] at hm; exact Option.some.inj hm
  ·exfalso
   have hlt:lowB ks t < m:=by omega
   obtain ⟨q1,q2⟩:=List.getElem?_eq_some_iff.1 h
   obtain ⟨r1,r2⟩:=List.getElem?_eq_some_iff.1 hm
   have:=List.pairwise_iff_getElem.1 hp _ _ q1 r1 hlt
   omega
 ·rintro rfl; exact List.mem_of_getElem? h
theorem lowB_end {ks:List Int} (hp:ks.Pairwise (· < ·)) {t:Int} (h:ks.length ≤ lowB ks t) : t ∉ ks:=by
 intro hm
 obtain ⟨m,hm⟩:=List.getElem?_of_mem hm
 have h1:=lowB_lt hp t m t hm
 obtain ⟨r1,r2⟩:=List.getElem?_eq_some_iff.1 hm
 have:t < t:=h1.2 (by omega)
 omega
end Go.Fn
namespace Go.Fn
set_option linter.unusedVariables false
open Go Go.Ab Go.Tx
abbrev thr (o:D6) : D4:=o.2.2.2.2.2.2.2.2.1
abbrev gat (o:D6) : D5:=o.2.2.2.2.2.2.2.2.2.1
abbrev big:Nat:=9223372036854775807
structure OkO (o:D6) : Prop where
 lab:o.2.2.1.length ≤ big
 lnk:(lnk o).length ≤ big
 dat:(dat o).length ≤ big
 mps:o.2.2.2.2.2.2.2.1.length ≤ big
 clr:(thr o).2.2.1.length ≤ big
 alr:(thr o).2.2.2.2.2.2.2.2.1.length ≤ big
 lbs:∀ i,((thr o).2.2.2.2.2.2.2.2.2.2.1 i).length ≤ big
 gra:(gat o).1.length ≤ big
 gcl:(gat o).2.1.length ≤ big
 inn:o.2.2.2.2.2.2.2.2.2.2.1.length ≤ big
 out:o.2.2.2.2.2.2.2.2.2.2.2.1.length ≤ big
structure FitL (l:List D0) : Prop where
 rise:l.Pairwise (fun a b=>a.1 < b.1)
 lev:∀ p ∈ l,0 ≤ p.2.1 ∧ p.2.1 ≤ 5 ∧ p.2.1 ≠ 2
theorem guard4 {i:Int} {Q:Unit → Prop} (h0:0 ≤ i) (h1:i < (4:Nat)) (h:Q ()) : Def (guardO (if (decide ((0:Int) ≤ i))=true then (decide (i < (4:Int))) else false)) Q :=
 have h4:i < 4:=by omega
 Def.guard (by simp [h0,h4]) h
theorem F159_def (l:List D0) (c:Int) (hl:l.length ≤ big) : Def (F159 l c) fun _=>True:=by
 unfold F159
 simp only [letJ_eq]
 refine Def.for1 (l:=l) (fun _=>True) hl trivial (fun pre v post e _=>?_) (fun _=>.done (.ret trivial))
 refine Def.ite (fun _=>Def.bind' (R:=fun _=>True) ((Def.at e).mono fun _ _=>trivial) (fun _ _=>.done (.ret trivial))) (fun _=>.turn ⟨rfl,trivial⟩)
theorem F219_def (a:Int) : Def (F219 a) fun _=>True:=by
 unfold F219
 exact Def.ite (fun _=>.ret trivial) (fun _=>.ret trivial)
theorem F158_def (a b:Int) : Def (F158 a b) fun _=>True:=by
 unfold F158
 exact Def.bind' (F219_def _) (fun _ _=>Def.bind' (F219_def _) (fun _ _=>.ret trivial))
theorem F100_def (a b:List D0) (ha:a.length ≤ big) (hb:b.length ≤ big) : Def (F100 a b) fun _=>True:=by
 unfold F100
 simp only [letJ_eq]
 refine Def.for1 (l:=a) (fun _=>True) ha trivial (fun pre v post e _=>?_) (fun _=>.done ?_)
 ·refine Def.bind' (R:=fun _=>True) ((Def.at e).mono fun _ _=>trivial) (fun _ _=>Def.bind' (F159_def _ _ hb) (fun _ _=>Def.bind' (F158_def _ _) (fun _ _=>?_)))
  exact Def.ite (fun _=>.done (.ret trivial)) (fun _=>.turn ⟨rfl,trivial⟩)
 ·refine Def.for1 (l:=b) (fun _=>True) hb trivial (fun pre v post e _=>?_) (fun _=>.done (.ret trivial))
  refine Def.bind' (F159_def _ _ ha) (fun _ _=>Def.bind' (R:=fun _=>True) ((Def.at e).mono fun _ _=>trivial) (fun _ _=>Def.bind' (F158_def _ _) (fun _ _=>?_)))
  exact Def.ite (fun _=>.done (.ret trivial)) (fun _=>.turn ⟨rfl,trivial⟩)
end Go.Fn
namespace Go.Fn
set_option linter.unusedVariables false
open Go Go.Ab Go.Tx
theorem F217_def (l:List D0) (hl:l.length ≤ 1000) : Def (F217 l) fun r=>r.length ≤ l.length:=by
 unfold F217
 simp only [letJ_eq]
 refine Def.for2 (l:=l) (fun pre a=>a.length ≤ pre.length) (by omega) (by simp) (fun pre v post a e hi=>?_) (fun a hi=>.done (.ret hi))
 have hlt:pre.length < l.length:=by rw [e]; simp
 refine Def.bind' (R:=fun _=>True) ((Def.at e).mono fun _ _=>trivial) (fun u _=>?_)
 have h271:∀ n,Def (F271 n) fun _=>True:=fun n=>by
  unfold F271
  exact Def.bind' (F219_def _) (fun _ _=>Def.ite (fun _=>.ret trivial) (fun _=>Def.bind' (F219_def _) (fun _ _=>.ret trivial)))
 refine Def.bind' (h271 _) (fun _ _=>Def.bind (.ret (Def.bind (Def.app (by simp only [List.length_cons,List.length_nil]; omega) (.turn ⟨rfl,?_⟩)))))
 simp only [List.length_append,List.length_cons,List.length_nil]; omega
theorem F270_def (a b:Int) : Def (F270 a b) fun _=>True:=by
 unfold F270
 refine Def.bind' (F219_def _) (fun _ _=>Def.bind' (F219_def _) (fun _ _=>?_))
 exact Def.ite (fun _=>Def.bind' (F219_def _) (fun _ _=>.ret trivial)) (fun _=>Def.bind' (F219_def _) (fun _ _=>.ret trivial))
theorem F269_def (l:List D0) (c n:Int) (hl:l.length ≤ 1000) : Def (F269 l c n) fun r=>r.length ≤ l.length + 1:=by
 unfold F269
 simp only [letJ_eq]
 refine Def.forB (l:=l) (fun s:List D0 × Bool × Int=>s.2.2) (fun pre s=>s.1.length ≤ pre.length + (if s.2.1=true then 1 else 0)) (by omega) rfl (by simp) (fun pre v post s e hs hi=>?_) (fun s hs hi=>?_)
 ·have hlt:pre.length < l.length:=by rw [e]; simp
  have hat:∀ Q:D0 → Prop,Q v → Def (idxO l s.2.2) Q:=fun Q h=>by rw [hs]; exact (Def.at e).mono fun _ h'=>by rw [h']; exact h
  have step:∀ (a:List D0) (b:Bool),a.length ≤ pre.length + (if b=true then 1 else 0) → Def (Option.bind (idxO l s.2.2) fun v9=>if (v9.1 != c)=true then Option.bind (idxO l s.2.2) fun v10=>Option.bind (some [v10]) fun v11=>Option.bind (appO 16 a v11) fun v12=>turn (v12,b,IntKind.wrap .i64 (s.2.2 + 1)) else turn (a,b,IntKind.wrap .i64 (s.2.2 + 1))) (fun r:(List D0 × Bool × Int) ⊕ List D0=>match r with | .inl s'=>s'.2.2=IntKind.wrap .i64 ((pre.length:Int) + 1) ∧ s'.1.length ≤ (pre ++ [v]).length + (if s'.2.1=true then 1 else 0) | .inr r=>r.length ≤ l.length + 1):=by
   intro a b ha
   have hb1:(if b=true then 1 else 0) ≤ 1:=by split <;> omega
   refine Def.bind (hat _ (Def.ite (fun _=>Def.bind (hat _ (Def.bind (.ret (Def.bind (Def.app (by simp only [List.length_cons,List.length_nil]; omega) (.turn ⟨by rw [hs],?_⟩)))))) ) (fun _=>.turn ⟨by rw [hs],?_⟩)))
   ·simp only [List.length_append,List.length_cons,List.length_nil]; omega
   ·simp only [List.length_append,List.length_cons,List.length_nil]; omega
  refine Def.bindI (fun _=>True) (fun _=>hat _ trivial) (fun v6 _ _=>?_)
  refine Def.ite (fun hc=>?_) (fun hc=>(step _ _ hi).mono fun r hr=>by cases r <;> exact hr)
  have hf:s.2.1=false:=by
   cases hq:s.2.1 with
   | false=>rfl
   | true=>rw [hq] at hc; simp at hc
  rw [hf] at hi
  refine Def.bind (.ret (Def.bind (Def.app (by simp only [List.length_cons,List.length_nil]; simp at hi; omega) ((step _ _ ?_).mono fun r hr=>by cases r <;> exact hr))))
  simp only [List.length_append,List.length_cons,List.length_nil]
  simp at hi ⊢; omega
 ·refine .done (Def.ite (fun hc=>?_) (fun hc=>.ret ?_))
  ·have hf:s.2.1=false:=by simpa using hc
   rw [hf] at hi
   simp at hi
   refine Def.bind (.ret (Def.bind (Def.app (by simp only [List.length_cons,List.length_nil]; omega) (.ret ?_))))
   simp only [List.length_append,List.length_cons,List.length_nil]; omega
  ·have hb1:(if s.2.1=true then 1 else 0) ≤ 1:=by split <;> omega
   omega
theorem F216_def (a:List D0) (ha:a.length ≤ 100) : Def (F216 a []) fun r=>r.length ≤ 2 * a.length:=by
 unfold F216
 simp only [letJ_eq]
 refine Def.for2 (l:=a) (fun pre s=>s.length ≤ a.length + pre.length) (by omega) (by simp) (fun pre v post s e hi=>?_) (fun s hi=>.done ?_)
 ·have hlt:pre.length < a.length:=by rw [e]; simp
  refine Def.bind' (R:=fun _=>True) ((Def.at e).mono fun _ _=>trivial) (fun _ _=>Def.bind' (R:=fun _=>True) ((Def.at e).mono fun _ _=>trivial) (fun _ _=>?_))
  refine Def.bind' (F159_def _ _ (by simp)) (fun _ _=>Def.bind' (F270_def _ _) (fun _ _=>Def.bind' (F269_def _ _ _ (by simp only; omega)) (fun r hr=>.turn ⟨rfl,?_⟩)))
  simp only [List.length_append,List.length_cons,List.length_nil] at hr ⊢; omega
 ·refine Def.for2 (l:=([] : List D0)) (fun pre x=>x.length ≤ 2 * a.length) (by simp) (by simp only; omega) (fun pre v post s e hi=>by cases pre <;> cases e) (fun s hi=>.done (.ret hi))
theorem F153_def (d o:List D0) (hd:d.length ≤ 100) (ho:o.length ≤ 100) : Def (F153 d o) fun _=>True:=by
 unfold F153
 refine Def.bind' (F217_def _ (by omega)) (fun r hr=>Def.bind' (F216_def _ (by omega)) (fun r' hr'=>Def.bind' (F100_def _ _ (by unfold big; omega) (by unfold big; omega)) (fun _ _=>.ret trivial)))
theorem findO_of {l:List D6} {id:Int} (h:(findO l id).2=true) : (findO l id).1 ∈ l ∧ (findO l id).1.1=id:=by
 unfold findO at h ⊢
 cases hf:l.find? (fun o=>o.1 == id) with
 | none=>rw [hf] at h; cases h
 | some o =>
  have:=List.find?_some hf
  exact ⟨List.mem_of_find?_eq_some hf,by simpa using this⟩
theorem F90_def (w:D7) (d:D6) (hn:(objs w).length ≤ 1000) (hs:∀ o ∈ objs w,o.2.2.1.length ≤ 16) (hd:d.2.2.1.length ≤ 16) (hk:(lnk d).length ≤ 1000) (hdat:(dat d).length ≤ 1000000) : Def (F90 w d) fun b=>b=true → (∀ x ∈ lnk d,∃ y ∈ objs w,y.1=x) ∧ (d.2.1=2 → usesF (objs w) (pages d) (lnk d) ≤ quo d):=by
 unfold F90
 simp only [letJ_eq]
 refine Def.for1 (l:=lnk d) (fun pre=>∀ x ∈ pre,∃ y ∈ objs w,y.1=x) (by omega) (by simp) (fun pre v post e hi=>?_) (fun hi=>.done ?_)
 ·refine Def.bind (Def.of (F43_eq w v hn) ?_)
  refine Def.bindI (fun _=>True) (fun hc=>F153_def _ _ (by omega) ?_) (fun v5 _ _=>?_)
  ·have:=hs _ (findO_of (by simpa using hc)).1; omega
  ·refine Def.ite (fun _=>.done (.ret (fun h=>by cases h))) (fun hc=>.turn ⟨rfl,fun x hx=>?_⟩)
   rcases List.mem_append.1 hx with hx | hx
   ·exact hi x hx
   ·simp only [List.mem_singleton] at hx
    subst hx
    simp at hc
    exact ⟨_,findO_of hc.1⟩
 ·refine Def.bindI (fun v=>v=usesF (objs w) (pages d) (lnk d)) (fun _=>Def.of (F36_eq w d hn hdat hk) rfl) (fun v2 q2 _=>.ret (fun hb=>⟨hi,fun e=>?_⟩))
  have q:=q2 (by simp [e])
  simp [e] at hb
  rw [← q]; exact hb
theorem F231_def (a b c:Int) : Def (F231 a b c) fun _=>True:=by
 unfold F231 F277
 refine Def.bind' (R:=fun _=>True) (Def.bind (Def.shr (by decide) fun _=>Def.bind (Def.shr (by decide) fun _=>Def.bind (Def.shr (by decide) fun _=>.ret trivial)))) (fun _ _=>Def.bind (Def.shr (by decide) fun _=>.ret trivial))
theorem F185_def (a b:Int) : Def (F185 a b) fun _=>True:=by
 unfold F185
 simp only [letJ_eq]
 refine Def.bind (Def.shr (by decide) fun v2=>?_)
 refine Def.loop (fun s:Int × Int × Int=>0 ≤ s.2.2 ∧ s.2.2 ≤ 8) (fun s=>8 - s.2.2.toNat) ⟨by simp,by simp⟩ (fun s hi=>?_)
 obtain ⟨h1,h2⟩:=hi
 refine Def.ite (fun hc=>?_) (fun hc=>.done (Def.bind (Def.shl (by decide) fun _=>.ret trivial)))
 have hc:s.2.2 < 8:=by simpa using hc
 have hw:IntKind.wrap .u64 (s.2.2 + 1)=s.2.2 + 1:=wrap_in (by simp [inR]; omega)
 refine Def.bind (Def.rem (by decide) fun v6=>Def.ite (fun _=>?_) (fun _=>?_))
 ·refine Def.bind' (F231_def _ _ _) (fun _ _=>.turn ?_)
  simp only [hw]
  exact ⟨⟨by omega,by omega⟩,by omega⟩
 ·refine Def.bind' (F231_def _ _ _) (fun _ _=>.turn ?_)
  simp only [hw]
  exact ⟨⟨by omega,by omega⟩,by omega⟩
theorem F122_def (a:Int) (s:D2) (b:Int) : Def (F122 a s b) fun _=>True:=by
 unfold F122
 exact Def.bind' (F185_def _ _) (fun _ _=>.ret trivial)
end Go.Fn
namespace Go.Fn
set_option linter.unusedVariables false
open Go Go.Ab Go.Tx
theorem shr_half {i j:Nat} (hn:i + j ≤ 4611686018427387904) : shrO .u64 (IntKind.wrap .u64 (IntKind.wrap .i64 ((i:Int) + j))) 1=some (((i + j) / 2:Nat) : Int):=by
 rw [wrap_i64 (x:=(i:Int) + j) (by omega) (by omega)]
 have e:IntKind.wrap .u64 ((i:Int) + j)=(i:Int) + j:=wrap_in (by simp [inR]; omega)
 rw [e,shrO,if_pos (by decide)]
 have e2:((i:Int) + j).fdiv (2 ^ (min (1:Int).toNat (IntKind.bits .u64)))=(((i + j) / 2:Nat) : Int):=by
  rw [show min (1:Int).toNat (IntKind.bits .u64)=1 from by decide,Int.fdiv_eq_ediv_of_nonneg _ (by decide)]
  simp
 rw [e2]
section
variable {ρ:Type}
theorem Def.search {n m:Nat} (hm:m ≤ n) (hn:n ≤ 1000000) {B E:Int × Int → Option ((Int × Int) ⊕ ρ)} {Q:ρ → Prop}
  (hb:∀ i j:Nat,i < j → j ≤ n → i ≤ m → m ≤ j → Def (B ((i:Int),(j:Int))) fun r=>match r with | .inl s=>(s=((((i + j) / 2:Nat) : Int) + 1,(j:Int)) ∧ (i + j) / 2 < m) ∨ (s=((i:Int),(((i + j) / 2:Nat) : Int)) ∧ m ≤ (i + j) / 2) | .inr r=>Q r)
  (he:Def (E ((m:Int),(m:Int))) fun r=>match r with | .inl _=>False | .inr r=>Q r) :
  Def (whileO (fun s=>if decide (s.1 < s.2)=true then B s else E s) ((0:Int),(n:Int))) Q:=by
 refine Def.loop (fun s:Int × Int=>∃ i j:Nat,s=((i:Int),(j:Int)) ∧ i ≤ m ∧ m ≤ j ∧ j ≤ n) (fun s=>(s.2 - s.1).toNat) ⟨0,n,rfl,by omega,hm,by omega⟩ (fun s hi=>?_)
 obtain ⟨i,j,rfl,h1,h2,h3⟩:=hi
 refine Def.ite (fun hc=>?_) (fun hc=>?_)
 ·have hlt:i < j:=by simpa using hc
  refine (hb i j hlt h3 h1 h2).mono fun r hr=>?_
  cases r with
  | inr r=>exact hr
  | inl s =>
   rcases hr with ⟨rfl,h⟩ | ⟨rfl,h⟩
   ·exact ⟨⟨(i + j) / 2 + 1,j,by simp,by omega,by omega,by omega⟩,by simp only; omega⟩
   ·exact ⟨⟨i,(i + j) / 2,rfl,by omega,by omega,by omega⟩,by simp only; omega⟩
 ·have hge : ¬ i < j:=by simpa using hc
  have e1:i=m:=by omega
  have e2:j=m:=by omega
  subst e1; subst e2
  refine he.mono fun r hr=>?_
  cases r with
  | inl s=>exact hr.elim
  | inr r=>exact hr
end
theorem F203_eq (a b:Int) : F203 a b=some (if a < b then -1 else if b < a then 1 else 0):=by
 unfold F203 F204
 simp only [Option.bind_some,letJ_eq,bne_self_eq_false,Bool.false_eq_true,if_false]
 by_cases h1:a < b
 ·simp [h1]
 ·by_cases h2:b < a
  ·simp [h1,h2]
  ·simp [h1,h2]
theorem F134_eq (a b:Int) : F134 a b=some (decide (a < b)):=by
 unfold F134 F204
 simp
theorem F70_eq (l:List Int) (t:Int) (hl:l.length ≤ 1000000) (hp:l.Pairwise (· < ·)) : F70 l t=some ((lowB l t:Int),decide (t ∈ l)):=by
 refine Def.eq ?_
 unfold F70
 simp only [letJ_eq]
 refine Def.search (n:=l.length) (m:=lowB l t) (lowB_le l t) hl (fun i j hij hj h1 h2=>?_) (.done ?_)
 ·simp only
  rw [shr_half (by omega)]
  have hk:(i + j) / 2 < l.length:=by omega
  have ew:IntKind.wrap .i64 (((i + j) / 2:Nat) : Int)=(((i + j) / 2:Nat) : Int):=wrap_i64 (by omega) (by omega)
  have ew2:IntKind.wrap .i64 ((((i + j) / 2:Nat) : Int) + 1)=(((i + j) / 2:Nat) : Int) + 1:=wrap_i64 (by omega) (by omega)
  rw [Option.bind_some]
  simp only [ew,ew2]
  refine Def.bind (Def.idx (by omega) (by omega) (fun v hv _=>?_))
  simp only [Int.toNat_natCast] at hv
  have hlow:=lowB_lt hp t _ v hv
  rw [F134_eq,Option.bind_some]
  refine Def.ite (fun hc=>.turn (.inl ⟨rfl,?_⟩)) (fun hc=>.turn (.inr ⟨rfl,?_⟩))
  ·exact hlow.1 (by simpa using hc)
  ·have : ¬ v < t:=by simpa using hc
   exact Nat.le_of_not_lt fun h=>this (hlow.2 h)
 ·simp only [F135,bne_self_eq_false]
  by_cases hlt:lowB l t < l.length
  ·have hg:=List.getElem?_eq_getElem hlt
   have hm:=lowB_mem hp hg
   have h1:idxO l (lowB l t:Int)=some l[lowB l t]:=by rw [idxO_nat,hg]
   have hd:decide (((lowB l t:Nat) : Int) < ((l.length:Nat) : Int))=true:=by simpa using hlt
   simp only [hd,h1,Bool.and_true,Bool.true_and,if_true,Option.bind_some]
   by_cases he:l[lowB l t]=t
   ·simp [he,hm.2 he,Def]
   ·have:t ∉ l:=fun h=>he (hm.1 h)
    simp [he,this,Def]
  ·have hd:decide (((lowB l t:Nat) : Int) < ((l.length:Nat) : Int))=false:=by simpa using hlt
   have:t ∉ l:=lowB_end hp (by omega)
   simp only [hd,Bool.false_and,Bool.false_eq_true,if_false,Option.bind_some]
   exact ⟨_,rfl,by simp [this]⟩
abbrev keys (l:List D6) : List Int:=l.map (·.1)
theorem keys_rise {l:List D6} (h:l.Pairwise (fun a b=>a.1 < b.1)) : (keys l).Pairwise (· < ·):=by
 rw [List.pairwise_map]; exact h
theorem F69_eq (w:D7) (id:Int) (hl:(objs w).length ≤ 1000000) (hp:(objs w).Pairwise (fun a b=>a.1 < b.1)) : F69 w id=some (findO (objs w) id):=by
 refine Def.eq ?_
 unfold F69 F132
 rw [Option.bind_some]
 have e0:((sett9_1_1 (sett9_0_1 (Ty.zero t9:D9) w.2.2.2.1) ()) : D8).1=objs w:=rfl
 simp only [letJ_eq,e0]
 have hk:=keys_rise hp
 have hlen:(keys (objs w)).length=(objs w).length:=by simp [keys]
 have hge:∀ (k:Nat) (v:D6),(objs w)[k]? = some v → (keys (objs w))[k]? = some v.1:=fun k v h=>by simp [keys,h]
 refine Def.search (n:=(objs w).length) (m:=lowB (keys (objs w)) id) (by rw [← hlen]; exact lowB_le _ _) hl (fun i j hij hj h1 h2=>?_) (.done ?_)
 ·simp only
  rw [shr_half (by omega)]
  have ew:IntKind.wrap .i64 (((i + j) / 2:Nat) : Int)=(((i + j) / 2:Nat) : Int):=wrap_i64 (by omega) (by omega)
  have ew2:IntKind.wrap .i64 ((((i + j) / 2:Nat) : Int) + 1)=(((i + j) / 2:Nat) : Int) + 1:=wrap_i64 (by omega) (by omega)
  rw [Option.bind_some]
  simp only [ew,ew2]
  refine Def.bind (Def.idx (by omega) (by show _ < (((objs w).length:Nat) : Int); omega) (fun v hv _=>?_))
  simp only [Int.toNat_natCast] at hv
  have hlow:=lowB_lt hk id _ v.1 (hge _ _ hv)
  rw [F145,Option.bind_some,F203_eq,Option.bind_some]
  refine Def.ite (fun hc=>.turn (.inl ⟨rfl,?_⟩)) (fun hc=>.turn (.inr ⟨rfl,?_⟩))
  ·refine hlow.1 ?_
   by_cases h:v.1 < id
   ·exact h
   ·by_cases h' : id < v.1 <;> simp [h,h'] at hc
  ·have : ¬ v.1 < id:=fun h=>by simp [h] at hc
   exact Nat.le_of_not_lt fun h=>this (hlow.2 h)
 ·by_cases hlt:lowB (keys (objs w)) id < (objs w).length
  ·have hg:=List.getElem?_eq_getElem hlt
   have hm:=lowB_mem hk (hge _ _ hg)
   have h1:idxO (objs w) (lowB (keys (objs w)) id:Int)=some (objs w)[lowB (keys (objs w)) id]:=by rw [idxO_nat,hg]
   have hd:decide (((lowB (keys (objs w)) id:Nat) : Int) < (((objs w).length:Nat) : Int))=true:=by simpa using hlt
   generalize ho:(objs w)[lowB (keys (objs w)) id]=o at h1 hm
   have hin:o ∈ objs w:=by rw [← ho]; exact List.getElem_mem hlt
   simp only [hd,h1,Bool.and_true,if_true,Option.bind_some,F145,F203_eq]
   by_cases he:o.1=id
   ·subst he
    refine ⟨_,by simp only [Int.lt_irrefl,if_false]; rfl,?_⟩
    exact (findO_mem hp o hin).symm
   ·have hno:∀ x ∈ objs w,x.1 ≠ id:=fun x hx e=>he (hm.1 (List.mem_map.2 ⟨x,hx,e⟩))
    refine ⟨_,?_,rfl⟩
    rw [findO_none hno]
    have : ¬ ((if o.1 < id then (-1:Int) else if id < o.1 then 1 else 0) == 0)=true:=by
     by_cases h1:o.1 < id
     ·simp [h1]
     ·by_cases h2:id < o.1
      ·simp [h1,h2]
      ·omega
    rw [if_pos (by simpa using this)]
  ·have hd:decide (((lowB (keys (objs w)) id:Nat) : Int) < (((objs w).length:Nat) : Int))=false:=by simpa using hlt
   have hno:∀ x ∈ objs w,x.1 ≠ id:=fun x hx e=>lowB_end hk (by rw [hlen]; omega) (List.mem_map.2 ⟨x,hx,e⟩)
   simp only [hd,Bool.false_and,Bool.false_eq_true,if_false,Option.bind_some]
   exact ⟨_,rfl,(findO_none hno).symm⟩
theorem F68_eq (o:D6) (h:(dat o).length ≤ 1000000) : F68 o=some (pages o):=by
 unfold F68
 have h' : (o.2.2.2.2.2.2.1).length ≤ 1000000:=h
 have e2:(((o.2.2.2.2.2.2.1).length:Nat) : Int).tdiv 16=((o.2.2.2.2.2.2.1).length:Int) / 16:=Int.tdiv_eq_ediv_of_nonneg (by omega)
 have e3:(((o.2.2.2.2.2.2.1).length:Nat) : Int).tmod 16=((o.2.2.2.2.2.2.1).length:Int) % 16:=Int.tmod_eq_emod_of_nonneg (by omega)
 rw [quoO,if_pos (by decide),e2,Option.bind_some,remO,if_pos (by decide),e3,Option.bind_some]
 simp only [letJ_eq]
 rw [wrap_i64 (x:=((o.2.2.2.2.2.2.1).length:Int) / 16) (by omega) (by omega),wrap_i64 (x:=((o.2.2.2.2.2.2.1).length:Int) / 16 + 1) (by omega) (by omega)]
 unfold pages
 split
 ·rename_i hc
  have hc:((o.2.2.2.2.2.2.1).length:Int) % 16 > 0:=by simpa using hc
  rw [wrap_i64 (by omega) (by omega)]
  simp only [dat,Option.some.injEq]; omega
 ·rename_i hc
  have hc : ¬ ((o.2.2.2.2.2.2.1).length:Int) % 16 > 0:=by simpa using hc
  simp only [dat,Option.some.injEq]; omega
theorem F35_eq (w:D7) (o:D6) (hl:(objs w).length ≤ 1000000) (hp:(objs w).Pairwise (fun a b=>a.1 < b.1)) (hd:(dat o).length ≤ 1000000) (hk:(lnk o).length ≤ 1000) : F35 w o=some (usesF (objs w) (pages o) (lnk o)):=by
 refine Def.eq ?_
 unfold F35
 rw [F68_eq o hd,Option.bind_some]
 simp only [letJ_eq]
 have e0:((sett11_0_4 (Ty.zero t11:D11) w) : D11).1=w:=rfl
 refine Def.forB (l:=lnk o) (fun s:Int × Int=>s.1) (fun pre s=>s.2=usesF (objs w) (pages o) pre) (by omega) rfl rfl (fun pre v post s e hs hi=>?_) (fun s hs hi=>.done (.ret hi))
 rw [hs]
 refine Def.bind' (Def.at e) (fun u hu=>?_)
 subst hu
 refine Def.bind (Def.of (F69_eq w u hl hp) (.turn ⟨rfl,?_⟩))
 rw [hi]
 simp only [usesF,List.foldl_append,List.foldl_cons,List.foldl_nil]
theorem F37_eq (w:D7) (o:D6) (hl:(objs w).length ≤ 1000000) (hp:(objs w).Pairwise (fun a b=>a.1 < b.1)) (hd:(dat o).length ≤ 1000000) (hk:(lnk o).length ≤ 1000) : F37 w o=some (IntKind.wrap .i64 (quo o - usesF (objs w) (pages o) (lnk o))):=by
 unfold F37
 rw [F35_eq w o hl hp hd hk,Option.bind_some]
end Go.Fn
namespace Go.Fn
set_option linter.unusedVariables false
open Go Go.Ab Go.Tx
theorem okO_of {o:D6} (h:wfT t6 o) : OkO o:=by
 obtain ⟨_,_,h1,_,_,h2,h3,h4,h5,h6,h7,h8,_⟩:=h
 obtain ⟨_,_,c1,_,_,_,_,_,c2,_,c3,_⟩:=h5
 obtain ⟨g1,g2,_⟩:=h6
 exact ⟨h1.1,h2.1,h3.1,h4.1,c1.1,c2.1,fun i=>(c3 i).1,g1.1,g2.1,h7.1,h8.1⟩
theorem ok_of {w:D7} (h:wfT t7 w) : (objs w).length ≤ big ∧ ∀ o ∈ objs w,OkO o:=by
 obtain ⟨_,_,_,h,_⟩:=h
 exact ⟨h.1,fun o ho=>okO_of (h.2 o ho)⟩
end Go.Fn
namespace Go.Fn
set_option linter.unusedVariables false
open Go Go.Ab Go.Tx
def raiseN (n:Int) : Int:=if n=0 then 5 else n
def raiseL (l:List D0) : List D0:=l.map fun p=>(p.1,raiseN p.2.1,())
theorem F301_eq {n:Int} (h0:0 ≤ n) (h5:n ≤ 5) : F301 n=some n:=by
 unfold F301 F278
 simp [h0,h5]
theorem F268_eq {n:Int} (h0:0 ≤ n) (h5:n ≤ 5) : F268 n=some (raiseN n):=by
 unfold F268
 rw [F301_eq h0 h5,Option.bind_some,raiseN]
 by_cases h:n=0 <;> simp [h]
theorem F210_eq (l:List D0) (hl:l.length ≤ 1000) (hf:FitL l) : F210 l=some (raiseL l):=by
 refine Def.eq ?_
 unfold F210
 simp only [letJ_eq]
 refine Def.loop (fun s:List D0 × List D0 × List D0=>s.1=[] ∧ ∃ pre,l=pre ++ s.2.1 ∧ s.2.2=raiseL pre) (fun s=>s.2.1.length) ⟨rfl,[],rfl,rfl⟩ (fun s hi=>?_)
 obtain ⟨b,a,out⟩:=s
 obtain ⟨rfl,pre,e,rfl⟩:=hi
 simp only at e
 cases a with
 | nil =>
  refine Def.ite (fun hc=>?_) (fun _=>.done (.ret (by simp only [List.append_nil] at e; rw [e])))
  simp [IntKind.wrap] at hc
  exact absurd hc (by decide)
 | cons p a =>
  have hlen:pre.length + (a.length + 1) ≤ 1000:=by rw [e] at hl; simpa using hl
  obtain ⟨h0,h5,h2⟩:=hf.lev p (by rw [e]; simp)
  have hw:IntKind.wrap .i64 ((((p :: a).length:Nat) : Int) + (([] : List D0).length:Nat))=(a.length:Int) + 1:=by
   rw [wrap_i64 (by simp only [List.length_cons,List.length_nil]; omega) (by simp only [List.length_cons,List.length_nil]; omega)]
   simp
  have hi0:idxO (p :: a) 0=some p:=rfl
  have hs:slcO (p :: a) 1 ((a.length:Int) + 1)=some a:=by
   rw [slcO,if_pos ⟨by omega,by omega,by simp⟩]
   simp
  have hr:raiseN p.2.1 ≠ 2:=by unfold raiseN; split <;> omega
  refine Def.ite (fun _=>?_) (fun hc=>?_)
  ·have hne:((a.length:Int) + 1 == 0)=false:=by simp; omega
   have hpos:decide ((a.length:Int) + 1 > 0)=true:=by simp only [gt_iff_lt,decide_eq_true_eq]; omega
   have hr' : (raiseN p.2.1 != 2)=true:=by simpa using hr
   have el:(((p :: a).length:Nat) : Int)=(a.length:Int) + 1:=by simp
   have en:((([] : List D0).length:Nat) : Int)=0:=rfl
   simp only [hi0,hs,el,en,hne,hpos,hr',F267,F268_eq h0 h5,Option.bind_some,beq_self_eq_true,if_true,Bool.not_true,Bool.not_false,Bool.false_and,Bool.and_false,Bool.false_eq_true,if_false,Bool.and_self,Bool.and_true,Int.lt_irrefl,gt_iff_lt,decide_false]
   refine Def.bind (Def.app (by simp only [raiseL,List.length_cons,List.length_nil,List.length_map]; omega) (.turn ⟨⟨rfl,pre ++ [p],by simpa using e,?_⟩,by simp⟩))
   simp [raiseL]
  ·simp only [hw] at hc
   simp at hc
def getL (l:List D0) (c:Int) : Int:=match l.find? (fun p=>p.1 == c) with | some p=>p.2.1 | none=>2
theorem getL_mem:∀ {l:List D0},l.Pairwise (fun a b=>a.1 < b.1) → ∀ p ∈ l,getL l p.1=p.2.1
 | [],_,o,h=>by cases h
 | a :: l,hp,o,h=>by
  obtain ⟨h1,h2⟩:=List.pairwise_cons.1 hp
  rcases List.mem_cons.1 h with rfl | h
  ·simp [getL]
  ·have:=h1 o h
   have hne:(a.1 == o.1)=false:=by simp; omega
   have ih:=getL_mem h2 o h
   unfold getL at ih ⊢
   rw [List.find?_cons,hne]
   exact ih
theorem getL_none {l:List D0} {c:Int} (h:∀ p ∈ l,p.1 ≠ c) : getL l c=2:=by
 have:l.find? (fun p=>p.1 == c)=none:=List.find?_eq_none.2 fun p hp=>by simpa using h p hp
 unfold getL
 rw [this]
theorem F300_eq (p:D0) (c:Int) : F300 p c=some (if p.1 < c then -1 else if c < p.1 then 1 else 0):=by
 unfold F300
 rw [F203_eq,Option.bind_some]
theorem F209_eq (l:List D0) (c:Int) (hl:l.length ≤ 1000000) (hp:l.Pairwise (fun a b=>a.1 < b.1)) : F209 l c=some (getL l c):=by
 have hk:(l.map (·.1)).Pairwise (· < ·):=by rw [List.pairwise_map]; exact hp
 have hlen:(l.map (·.1)).length=l.length:=by simp
 have hge:∀ (k:Nat) (v:D0),l[k]? = some v → (l.map (·.1))[k]? = some v.1:=fun k v h=>by simp [h]
 have h265:Def (F265 l c) fun r=>Def (if r.2=true then Option.bind (idxO l r.1) fun v=>some v.2.1 else some 2) fun r=>r=getL l c:=by
  unfold F265
  simp only [letJ_eq]
  refine Def.search (n:=l.length) (m:=lowB (l.map (·.1)) c) (by rw [← hlen]; exact lowB_le _ _) hl (fun i j hij hj h1 h2=>?_) (.done ?_)
  ·simp only
   rw [shr_half (by omega)]
   have ew:IntKind.wrap .i64 (((i + j) / 2:Nat) : Int)=(((i + j) / 2:Nat) : Int):=wrap_i64 (by omega) (by omega)
   have ew2:IntKind.wrap .i64 ((((i + j) / 2:Nat) : Int) + 1)=(((i + j) / 2:Nat) : Int) + 1:=wrap_i64 (by omega) (by omega)
   rw [Option.bind_some]
   simp only [ew,ew2]
   refine Def.bind (Def.idx (by omega) (by omega) (fun v hv _=>?_))
   simp only [Int.toNat_natCast] at hv
   have hlow:=lowB_lt hk c _ v.1 (hge _ _ hv)
   rw [F300_eq,Option.bind_some]
   refine Def.ite (fun hc=>.turn (.inl ⟨rfl,?_⟩)) (fun hc=>.turn (.inr ⟨rfl,?_⟩))
   ·refine hlow.1 ?_
    by_cases h:v.1 < c
    ·exact h
    ·by_cases h' : c < v.1 <;> simp [h,h'] at hc
   ·have : ¬ v.1 < c:=fun h=>by simp [h] at hc
    exact Nat.le_of_not_lt fun h=>this (hlow.2 h)
  ·by_cases hlt:lowB (l.map (·.1)) c < l.length
   ·have hg:=List.getElem?_eq_getElem hlt
    have hm:=lowB_mem hk (hge _ _ hg)
    have h1:idxO l (lowB (l.map (·.1)) c:Int)=some l[lowB (l.map (·.1)) c]:=by rw [idxO_nat,hg]
    have hd:decide (((lowB (l.map (·.1)) c:Nat) : Int) < ((l.length:Nat) : Int))=true:=by simpa using hlt
    generalize ho:l[lowB (l.map (·.1)) c]=o at h1 hm
    have hin:o ∈ l:=by rw [← ho]; exact List.getElem_mem hlt
    simp only [hd,h1,Bool.and_true,if_true,Option.bind_some,F300_eq]
    by_cases he:o.1=c
    ·subst he
     refine ⟨_,rfl,?_⟩
     simp only [Int.lt_irrefl,if_false]
     refine ⟨_,?_,(getL_mem hp o hin).symm⟩
     simp [h1]
    ·have hno:∀ x ∈ l,x.1 ≠ c:=fun x hx e=>he (hm.1 (List.mem_map.2 ⟨x,hx,e⟩))
     refine ⟨_,rfl,?_⟩
     rw [getL_none hno]
     have : ¬ ((if o.1 < c then (-1:Int) else if c < o.1 then 1 else 0) == 0)=true:=by
      by_cases h1:o.1 < c
      ·simp [h1]
      ·by_cases h2:c < o.1
       ·simp [h1,h2]
       ·omega
     have hx:((if o.1 < c then (-1:Int) else if c < o.1 then 1 else 0) == 0)=false:=by simpa only [Bool.not_eq_true] using this
     show Def (if ((if o.1 < c then (-1:Int) else if c < o.1 then 1 else 0) == 0)=true then _ else _) _
     rw [hx]
     exact .ret rfl
   ·have hd:decide (((lowB (l.map (·.1)) c:Nat) : Int) < ((l.length:Nat) : Int))=false:=by simpa using hlt
    have hno:∀ x ∈ l,x.1 ≠ c:=fun x hx e=>lowB_end hk (by rw [hlen]; omega) (List.mem_map.2 ⟨x,hx,e⟩)
    simp only [hd,Bool.false_and,Bool.false_eq_true,if_false,Option.bind_some]
    exact ⟨_,rfl,.ret (getL_none hno).symm⟩
 unfold F209
 exact Def.eq (Def.bind h265)
theorem raiseL_rise {l:List D0} (h:FitL l) : (raiseL l).Pairwise (fun a b=>a.1 < b.1):=by
 unfold raiseL
 rw [List.pairwise_map]
 exact h.rise
def placeB (d o:List D0) : Bool:=d.all fun p=>decide (p.2.1 ≤ max 2 (getL (raiseL o) p.1))
theorem F146_eq (d o:List D0) (hd:d.length ≤ 1000) (ho:o.length ≤ 1000) (hf:FitL o) : F146 d o=some (placeB d o):=by
 refine Def.eq ?_
 unfold F146
 simp only [letJ_eq]
 refine Def.for1 (l:=d) (fun pre=>placeB pre o=true) (by omega) rfl (fun pre v post e hi=>?_) (fun hi=>.done (.ret hi.symm))
 rw [F210_eq o ho hf,Option.bind_some,F209_eq _ _ (by simp [raiseL]; omega) (raiseL_rise hf),Option.bind_some]
 have hm:(if decide ((2:Int) > getL (raiseL o) v.1)=true then (2:Int) else getL (raiseL o) v.1)=max 2 (getL (raiseL o) v.1):=by
  by_cases h:(2:Int) > getL (raiseL o) v.1
  ·rw [if_pos (by simpa using h)]; omega
  ·rw [if_neg (by simpa using h)]; omega
 rw [hm]
 refine Def.ite (fun hc=>.done (.ret ?_)) (fun hc=>.turn ⟨rfl,?_⟩)
 ·have hc:v.2.1 > max 2 (getL (raiseL o) v.1):=by simpa using hc
  have:decide (v.2.1 ≤ max 2 (getL (raiseL o) v.1))=false:=by simp only [decide_eq_false_iff_not]; omega
  have hp:placeB (pre ++ v :: post) o=false:=by rw [placeB,List.all_append,List.all_cons,this]; simp
  rw [e,hp]
 ·have hc : ¬ v.2.1 > max 2 (getL (raiseL o) v.1):=by simpa using hc
  unfold placeB at hi ⊢
  rw [List.all_append,hi,List.all_cons,List.all_nil,decide_eq_true (by omega)]
  rfl
end Go.Fn
namespace Go.Fn
set_option linter.unusedVariables false
open Go Go.Ab Go.Tx
theorem lowB_cons {k t:Int} {ks:List Int}:lowB (k :: ks) t=if k < t then lowB ks t + 1 else lowB ks t:=by
 unfold lowB
 rw [List.filter_cons]
 by_cases h:k < t <;> simp [h]
theorem split_low:∀ {l:List D6},l.Pairwise (fun a b=>a.1 < b.1) → ∀ t:Int,l.take (lowB (keys l) t)=l.filter (fun o=>decide (o.1 < t)) ∧ l.drop (lowB (keys l) t)=l.filter (fun o=>!decide (o.1 < t))
 | [],_,t=>by simp
 | o :: l,hp,t=>by
  obtain ⟨h1,h2⟩:=List.pairwise_cons.1 hp
  obtain ⟨i1,i2⟩:=split_low h2 t
  by_cases h:o.1 < t
  ·have e:lowB (keys (o :: l)) t=lowB (keys l) t + 1:=by simp only [keys,List.map_cons,lowB_cons,h,if_true]
   rw [e]
   simp only [List.take_succ_cons,List.drop_succ_cons,List.filter_cons,h,decide_true,if_true,Bool.not_true,Bool.false_eq_true,if_false]
   exact ⟨by rw [i1],i2⟩
  ·have hall:∀ x ∈ o :: l,¬ x.1 < t:=by
    intro x hx
    rcases List.mem_cons.1 hx with rfl | hx
    ·exact h
    ·have:=h1 x hx; omega
   have e:lowB (keys (o :: l)) t=0:=by
    unfold lowB
    rw [List.filter_eq_nil_iff.2]
    ·rfl
    ·intro x hx
     obtain ⟨y,hy,rfl⟩:=List.mem_map.1 hx
     simpa using hall y hy
   rw [e]
   refine ⟨?_,?_⟩
   ·rw [List.take_zero,List.filter_eq_nil_iff.2]
    intro x hx; simpa using hall x hx
   ·rw [List.drop_zero,List.filter_eq_self.2]
    intro x hx; simpa using hall x hx
theorem split_lowI:∀ {l:List Int},l.Pairwise (· < ·) → ∀ t:Int,l.take (lowB l t)=l.filter (fun o=>decide (o < t)) ∧ l.drop (lowB l t)=l.filter (fun o=>!decide (o < t))
 | [],_,t=>by simp
 | o :: l,hp,t=>by
  obtain ⟨h1,h2⟩:=List.pairwise_cons.1 hp
  obtain ⟨i1,i2⟩:=split_lowI h2 t
  by_cases h:o < t
  ·have e:lowB (o :: l) t=lowB l t + 1:=by simp only [lowB_cons,h,if_true]
   rw [e]
   simp only [List.take_succ_cons,List.drop_succ_cons,List.filter_cons,h,decide_true,if_true,Bool.not_true,Bool.false_eq_true,if_false]
   exact ⟨by rw [i1],i2⟩
  ·have hall:∀ x ∈ o :: l,¬ x < t:=by
    intro x hx
    rcases List.mem_cons.1 hx with rfl | hx
    ·exact h
    ·have:=h1 x hx; omega
   have e:lowB (o :: l) t=0:=by
    unfold lowB
    rw [List.filter_eq_nil_iff.2]
    ·rfl
    ·intro x hx; simpa using hall x hx
   rw [e]
   refine ⟨?_,?_⟩
   ·rw [List.take_zero,List.filter_eq_nil_iff.2]
    intro x hx; simpa using hall x hx
   ·rw [List.drop_zero,List.filter_eq_self.2]
    intro x hx; simpa using hall x hx
def insL (l:List Int) (t:Int) : List Int:=l.filter (fun o=>decide (o < t)) ++ t :: l.filter (fun o=>!decide (o < t))
def putL (l:List D6) (o:D6) : List D6:=l.filter (fun x=>decide (x.1 < o.1)) ++ o :: l.filter (fun x=>decide (o.1 < x.1))
theorem insL_eq {l:List Int} (hp:l.Pairwise (· < ·)) (t:Int) (hl:l.length ≤ 1000000) : insO 8 l (lowB l t:Int) [t]=some (insL l t):=by
 have h1:=lowB_le l t
 rw [insO,if_pos ⟨by omega,by omega,by simp only [List.length_cons,List.length_nil]; omega⟩]
 obtain ⟨e1,e2⟩:=split_lowI hp t
 simp only [Int.toNat_natCast,e1,e2,insL]
 simp
theorem putL_ins {l:List D6} (hp:l.Pairwise (fun a b=>a.1 < b.1)) (o:D6) (hl:l.length ≤ 1000000) (hno:∀ x ∈ l,x.1 ≠ o.1) : insO 632 l (lowB (keys l) o.1:Int) [o]=some (putL l o):=by
 have h1:=lowB_le (keys l) o.1
 have h2:(keys l).length=l.length:=by simp [keys]
 rw [insO,if_pos ⟨by omega,by omega,by simp only [List.length_cons,List.length_nil]; omega⟩]
 obtain ⟨e1,e2⟩:=split_low hp o.1
 simp only [Int.toNat_natCast,e1,e2,putL]
 have:l.filter (fun x=>!decide (x.1 < o.1))=l.filter (fun x=>decide (o.1 < x.1)):=by
  refine List.filter_congr fun x hx=>?_
  have:=hno x hx
  by_cases h:x.1 < o.1
  ·have h' : ¬ o.1 < x.1:=by omega
   simp [h,h']
  ·have h' : o.1 < x.1:=by omega
   simp [h,h']
 rw [this]; simp
theorem putL_set {l:List D6} (hp:l.Pairwise (fun a b=>a.1 < b.1)) (o v:D6) (hv:l[lowB (keys l) o.1]? = some v) (e:v.1=o.1) : lsetO l (lowB (keys l) o.1:Int) o=some (putL l o):=by
 obtain ⟨hlt,hve⟩:=List.getElem?_eq_some_iff.1 hv
 rw [lsetO,if_pos ⟨by omega,by simpa using hlt⟩]
 obtain ⟨e1,e2⟩:=split_low hp o.1
 simp only [Int.toNat_natCast,Option.some.injEq]
 rw [List.set_eq_take_append_cons_drop,if_pos hlt,e1,putL]
 have hd:l.drop (lowB (keys l) o.1)=v :: l.drop (lowB (keys l) o.1 + 1):=by rw [← hve]; exact List.drop_eq_getElem_cons hlt
 rw [hd] at e2
 have e3:l.drop (lowB (keys l) o.1 + 1)=l.filter (fun x=>decide (o.1 < x.1)):=by
  have hp2:(v :: l.drop (lowB (keys l) o.1 + 1)).Pairwise (fun a b=>a.1 < b.1):=by rw [← hd]; exact hp.sublist (List.drop_sublist _ _)
  obtain ⟨q1,q2⟩:=List.pairwise_cons.1 hp2
  have h1:(v :: l.drop (lowB (keys l) o.1 + 1)).filter (fun x=>decide (o.1 < x.1))=l.drop (lowB (keys l) o.1 + 1):=by
   rw [List.filter_cons,if_neg (by simp; omega),List.filter_eq_self.2]
   intro x hx
   have:=q1 x hx
   simp; omega
  rw [← h1,e2,List.filter_filter]
  refine List.filter_congr fun x hx=>?_
  by_cases h:o.1 < x.1
  ·have h' : ¬ x.1 < o.1:=by omega
   simp [h,h']
  ·simp [h]
 rw [e3]
theorem mem_insL {l:List Int} {t x:Int}:x ∈ insL l t ↔ x=t ∨ x ∈ l:=by
 simp only [insL,List.mem_append,List.mem_cons,List.mem_filter]
 by_cases h:x < t
 ·simp [h]; constructor
  ·rintro (h1 | h1)
   ·exact .inr h1
   ·omega
  ·rintro (h1 | h1)
   ·omega
   ·exact .inl h1
 ·simp [h]
theorem mem_putL {l:List D6} {o x:D6}:x ∈ putL l o ↔ x=o ∨ x ∈ l ∧ x.1 ≠ o.1:=by
 simp only [putL,List.mem_append,List.mem_cons,List.mem_filter,decide_eq_true_eq]
 constructor
 ·rintro (⟨h1,h2⟩ | h | ⟨h1,h2⟩)
  ·exact .inr ⟨h1,by omega⟩
  ·exact .inl h
  ·exact .inr ⟨h1,by omega⟩
 ·rintro (h | ⟨h1,h2⟩)
  ·exact .inr (.inl h)
  ·by_cases h:x.1 < o.1
   ·exact .inl ⟨h1,h⟩
   ·exact .inr (.inr ⟨h1,by omega⟩)
theorem insL_rise {l:List Int} (hp:l.Pairwise (· < ·)) {t:Int} (hn:t ∉ l) : (insL l t).Pairwise (· < ·):=by
 unfold insL
 rw [List.pairwise_append,List.pairwise_cons]
 refine ⟨hp.filter _,⟨fun x hx=>?_,hp.filter _⟩,fun x hx y hy=>?_⟩
 ·simp only [List.mem_filter] at hx
  have h1 : ¬ x < t:=by simpa using hx.2
  have:x ≠ t:=fun e=>hn (e ▸ hx.1)
  omega
 ·simp only [List.mem_filter,decide_eq_true_eq] at hx
  rcases List.mem_cons.1 hy with rfl | hy
  ·exact hx.2
  ·simp only [List.mem_filter] at hy
   have h1 : ¬ y < t:=by simpa using hy.2
   omega
theorem putL_rise {l:List D6} (hp:l.Pairwise (fun a b=>a.1 < b.1)) (o:D6) : (putL l o).Pairwise (fun a b=>a.1 < b.1):=by
 unfold putL
 rw [List.pairwise_append,List.pairwise_cons]
 refine ⟨hp.filter _,⟨fun x hx=>?_,hp.filter _⟩,fun x hx y hy=>?_⟩
 ·simp only [List.mem_filter,decide_eq_true_eq] at hx; exact hx.2
 ·simp only [List.mem_filter,decide_eq_true_eq] at hx
  rcases List.mem_cons.1 hy with rfl | hy
  ·exact hx.2
  ·simp only [List.mem_filter,decide_eq_true_eq] at hy; omega
theorem insL_len (l:List Int) (t:Int) : (insL l t).length ≤ l.length + 1:=by
 have h:∀ l:List Int,(l.filter (fun o=>decide (o < t))).length + (l.filter (fun o=>!decide (o < t))).length=l.length:=by
  intro l
  induction l with
  | nil=>rfl
  | cons a l ih=>by_cases h:a < t <;> simp [List.filter_cons,h] <;> omega
 have:=h l
 simp only [insL,List.length_append,List.length_cons]; omega
theorem putL_len (l:List D6) (o:D6) : (putL l o).length ≤ l.length + 1:=by
 have h:∀ l:List D6,(l.filter (fun x=>decide (x.1 < o.1))).length + (l.filter (fun x=>decide (o.1 < x.1))).length ≤ l.length:=by
  intro l
  induction l with
  | nil=>exact Nat.le_refl _
  | cons a l ih =>
   by_cases h:a.1 < o.1
   ·have h' : ¬ o.1 < a.1:=by omega
    simp [List.filter_cons,h,h']; omega
   ·by_cases h' : o.1 < a.1 <;> simp [List.filter_cons,h,h'] <;> omega
 have:=h l
 simp only [putL,List.length_append,List.length_cons]; omega
abbrev Ris (w:D7) : Prop:=(objs w).Pairwise (fun a b=>a.1 < b.1)
def putW (w:D7) (o:D6) : D7:=if (putL (objs w) o).length ≤ 1024 then sett7_3_1 w (putL (objs w) o) else w
theorem F74_eq (w:D7) (o:D6) (hl:(objs w).length ≤ 100000) (hp:Ris w) : F74 w o=some (putW w o):=by
 refine Def.eq ?_
 unfold F74 F132
 rw [Option.bind_some]
 have e0:((sett9_1_1 (sett9_0_1 (Ty.zero t9:D9) w.2.2.2.1) ()) : D8).1=objs w:=rfl
 simp only [letJ_eq,e0]
 have hk:=keys_rise hp
 have hlen:(keys (objs w)).length=(objs w).length:=by simp [keys]
 have hge:∀ (k:Nat) (v:D6),(objs w)[k]? = some v → (keys (objs w))[k]? = some v.1:=fun k v h=>by simp [keys,h]
 have fin:∀ l,l=putL (objs w) o → Def (if decide (((List.length l:Nat) : Int) ≤ (1024:Int))=true then some (sett7_3_1 w l) else some w) fun r=>r=putW w o:=by
  rintro l rfl
  unfold putW
  refine Def.ite (fun hc=>.ret ?_) (fun hc=>.ret ?_)
  ·rw [if_pos (by simp only [decide_eq_true_eq] at hc; omega)]
  ·rw [if_neg (by simp only [decide_eq_true_eq] at hc; omega)]
 have hc0:∀ {Q:List D6 → Prop},Q (objs w) → Def (appO 632 [] (objs w)) Q:=fun h=>Def.app (by simp only [List.length_nil]; omega) (by simpa using h)
 rw [F145,Option.bind_some]
 refine Def.search (n:=(objs w).length) (m:=lowB (keys (objs w)) o.1) (by rw [← hlen]; exact lowB_le _ _) (by omega) (fun i j hij hj h1 h2=>?_) (.done ?_)
 ·simp only
  rw [shr_half (by omega)]
  have ew:IntKind.wrap .i64 (((i + j) / 2:Nat) : Int)=(((i + j) / 2:Nat) : Int):=wrap_i64 (by omega) (by omega)
  have ew2:IntKind.wrap .i64 ((((i + j) / 2:Nat) : Int) + 1)=(((i + j) / 2:Nat) : Int) + 1:=wrap_i64 (by omega) (by omega)
  rw [Option.bind_some]
  simp only [ew,ew2]
  refine Def.bind (Def.idx (by omega) (by show _ < (((objs w).length:Nat) : Int); omega) (fun v hv _=>?_))
  simp only [Int.toNat_natCast] at hv
  have hlow:=lowB_lt hk o.1 _ v.1 (hge _ _ hv)
  rw [F145,Option.bind_some,F203_eq,Option.bind_some]
  refine Def.ite (fun hc=>.turn (.inl ⟨rfl,?_⟩)) (fun hc=>.turn (.inr ⟨rfl,?_⟩))
  ·refine hlow.1 ?_
   by_cases h:v.1 < o.1
   ·exact h
   ·by_cases h' : o.1 < v.1 <;> simp [h,h'] at hc
  ·have : ¬ v.1 < o.1:=fun h=>by simp [h] at hc
   exact Nat.le_of_not_lt fun h=>this (hlow.2 h)
 ·by_cases hlt:lowB (keys (objs w)) o.1 < (objs w).length
  ·have hg:=List.getElem?_eq_getElem hlt
   have hm:=lowB_mem hk (hge _ _ hg)
   have h1:idxO (objs w) (lowB (keys (objs w)) o.1:Int)=some (objs w)[lowB (keys (objs w)) o.1]:=by rw [idxO_nat,hg]
   have hd:decide (((lowB (keys (objs w)) o.1:Nat) : Int) < (((objs w).length:Nat) : Int))=true:=by simpa using hlt
   generalize ho:(objs w)[lowB (keys (objs w)) o.1]=v at h1 hm hg
   simp only [hd,h1,Bool.and_true,if_true,Option.bind_some,F145,F203_eq]
   refine Def.bind (hc0 ?_)
   by_cases he:v.1=o.1
   ·have hx:((if v.1 < o.1 then (-1:Int) else if o.1 < v.1 then 1 else 0) == 0)=true:=by rw [he]; simp
    rw [hx]
    simp only [if_true,h1,Option.bind_some]
    rw [putL_set hp o v hg he,Option.bind_some]
    exact fin _ rfl
   ·have hno:∀ x ∈ objs w,x.1 ≠ o.1:=fun x hx e=>he (hm.1 (List.mem_map.2 ⟨x,hx,e⟩))
    have hx:((if v.1 < o.1 then (-1:Int) else if o.1 < v.1 then 1 else 0) == 0)=false:=by
     by_cases h1:v.1 < o.1
     ·simp [h1]
     ·by_cases h2:o.1 < v.1
      ·simp [h1,h2]
      ·omega
    rw [hx]
    simp only [Bool.false_eq_true,if_false,Option.bind_some]
    rw [putL_ins hp o (by omega) hno,Option.bind_some]
    exact fin _ rfl
  ·have hd:decide (((lowB (keys (objs w)) o.1:Nat) : Int) < (((objs w).length:Nat) : Int))=false:=by simpa using hlt
   have hno:∀ x ∈ objs w,x.1 ≠ o.1:=fun x hx e=>lowB_end hk (by rw [hlen]; omega) (List.mem_map.2 ⟨x,hx,e⟩)
   simp only [hd,Bool.false_and,Bool.false_eq_true,if_false,Option.bind_some]
   refine Def.bind (hc0 ?_)
   rw [putL_ins hp o (by omega) hno,Option.bind_some]
   exact fin _ rfl
structure Nice (w:D7) : Prop where
 few:(objs w).length ≤ 1000
 ids:Ris w
 lns:∀ o ∈ objs w,(lnk o).length ≤ 1000
 lnk:∀ o ∈ objs w,(Fn.lnk o).Pairwise (· < ·)
 dat:∀ o ∈ objs w,(dat o).length ≤ 1000000
def roomF (l:List D6) (d:D6) : Int:=IntKind.wrap .i64 (quo d - usesF l (pages d) (lnk d))
def laidF (l:List D6) (d o:D6) : D6 × Int :=
 if placeB d.2.2.1 o.2.2.1=false then (d,2)
 else if 64 ≤ (lnk d).length then (d,6)
 else if quo o > roomF l d ∨ 0 < (lnk o).length then (d,5)
 else (sett6_5_1 d (insL (lnk d) o.1),0)
structure NiceO (o:D6) : Prop where
 lns:(lnk o).length ≤ 1000
 lnk:(Fn.lnk o).Pairwise (· < ·)
 dat:(dat o).length ≤ 1000000
 lab:o.2.2.1.length ≤ 1000
 fit:FitL o.2.2.1
theorem F118_eq (w:D7) (d o:D6) (hw:Nice w) (hd:NiceO d) (ho:NiceO o) : F118 (sett11_0_4 (Ty.zero t11:D11) w) d o=some (laidF (objs w) d o):=by
 refine Def.eq ?_
 unfold F118 laidF
 rw [F146_eq _ _ hd.lab ho.lab ho.fit,Option.bind_some]
 simp only [letJ_eq]
 cases hp:placeB d.2.2.1 o.2.2.1 with
 | false=>exact .ret rfl
 | true =>
  simp only [Bool.not_true,Bool.false_eq_true,if_false,Bool.true_eq_false]
  by_cases h64:64 ≤ (lnk d).length
  ·have h1:((lnk d).length:Int) ≥ 64:=by omega
   rw [if_pos h64,if_pos (by simpa using h1)]
   exact .ret rfl
  ·have h1 : ¬ ((lnk d).length:Int) ≥ 64:=by omega
   rw [if_neg h64,if_neg (by simpa using h1)]
   have e37:=F37_eq w d (by have:=hw.few; omega) hw.ids hd.dat hd.lns
   rw [e37,Option.bind_some]
   by_cases hr:quo o > roomF (objs w) d ∨ 0 < (lnk o).length
   ·rw [if_pos hr,if_pos]
    ·exact .ret rfl
    ·rcases hr with h | h
     ·rw [if_pos]
      unfold roomF at h
      simpa using h
     ·by_cases h' : decide (o.2.2.2.1 > IntKind.wrap .i64 (quo d - usesF (objs w) (pages d) (lnk d)))=true
      ·rw [if_pos h']
      ·rw [if_neg h']; simpa using h
   ·rw [if_neg hr,if_neg]
    ·have hlow:=insL_eq hd.lnk o.1 (by have:=hd.lns; omega)
     rw [F70_eq (lnk d) o.1 (by have:=hd.lns; omega) hd.lnk,Option.bind_some,Option.bind_some]
     refine Def.bind (Def.app (by have:=hd.lns; simp only [List.length_nil]; simp only [lnk] at this; omega) ?_)
     simp only [List.nil_append]
     rw [hlow,Option.bind_some]
     exact .ret rfl
    ·simp only [not_or,Int.not_lt] at hr
     unfold roomF at hr
     rw [if_neg (by simpa using hr.1)]
     simpa using hr.2
end Go.Fn
namespace Go.Fn
set_option linter.unusedVariables false
open Go Go.Ab Go.Tx
theorem zeroO_nice:NiceO (Ty.zero t6:D6):=⟨by decide,List.Pairwise.nil,by decide,by decide,⟨List.Pairwise.nil,by intro p hp; cases hp⟩⟩
theorem findO_all {l:List D6} {Q:D6 → Prop} (h:∀ o ∈ l,Q o) (h0:Q (Ty.zero t6)) (id:Int) : Q (findO l id).1:=by
 cases hf:(findO l id).2 with
 | true=>exact h _ (findO_of hf).1
 | false =>
  have:(findO l id).1=Ty.zero t6:=by
   unfold findO at hf ⊢
   cases hx:l.find? (fun o=>o.1 == id) with
   | none=>rfl
   | some o=>rw [hx] at hf; cases hf
  rw [this]; exact h0
theorem putW_objs {w:D7} {o:D6} (h:(objs w).length + 1 ≤ 1024) : objs (putW w o)=putL (objs w) o:=by
 have:=putL_len (objs w) o
 unfold putW
 rw [if_pos (by omega)]
theorem putW_ris {w:D7} (o:D6) (h:Ris w) : Ris (putW w o):=by
 unfold putW
 split
 ·exact putL_rise h o
 ·exact h
theorem putW_len (w:D7) (o:D6) : (objs (putW w o)).length ≤ (objs w).length + 1:=by
 unfold putW
 split
 ·exact putL_len _ _
 ·omega
def attachF (w:D7) (d:Int) (o:D6) : D7 × Int :=
 if (findO (objs w) d).2=false then (w,1)
 else if (findO (objs w) d).1.2.1 ≠ 2 then (w,3)
 else if (findO (objs w) o.1).2=true then (w,12)
 else if (laidF (objs w) (findO (objs w) d).1 o).2 ≠ 0 then (w,(laidF (objs w) (findO (objs w) d).1 o).2)
 else (putW (putW w o) (laidF (objs w) (findO (objs w) d).1 o).1,0)
theorem F51_eq (w:D7) (d:Int) (o:D6) (hw:Nice w) (hs:∀ x ∈ objs w,NiceO x) (ho:NiceO o) : F51 w d o=some (attachF w d o):=by
 have hf:=hw.few
 refine Def.eq ?_
 unfold F51 attachF
 rw [F69_eq w d (by omega) hw.ids,Option.bind_some]
 simp only [letJ_eq]
 cases h1:(findO (objs w) d).2 with
 | false=>exact .ret rfl
 | true =>
  simp only [Bool.not_true,Bool.false_eq_true,Bool.true_eq_false,if_false]
  by_cases h2:(findO (objs w) d).1.2.1=2
  ·rw [if_neg (by simpa using h2),if_neg (by simpa using h2),F69_eq w o.1 (by omega) hw.ids,Option.bind_some]
   cases h3:(findO (objs w) o.1).2 with
   | true=>exact .ret rfl
   | false =>
    simp only [Bool.false_eq_true,if_false]
    rw [F118_eq w _ o hw (findO_all hs zeroO_nice d) ho,Option.bind_some]
    by_cases h4:(laidF (objs w) (findO (objs w) d).1 o).2=0
    ·rw [if_neg (by simpa using h4),if_neg (by simpa using h4),F74_eq w o (by omega) hw.ids,Option.bind_some,F74_eq _ _ (by have:=putW_len w o; omega) (putW_ris o hw.ids),Option.bind_some]
     exact .ret rfl
    ·rw [if_pos (by simpa using h4),if_pos h4]
     exact .ret rfl
  ·rw [if_pos (by simpa using h2),if_pos h2]
   exact .ret rfl
def wholeK (k:Int) : Bool:=k == 2 || k == 4
def linkF (w:D7) (d id:Int) : D7 × Int :=
 if (findO (objs w) d).2=false ∨ (findO (objs w) id).2=false then (w,1)
 else if (findO (objs w) d).1.2.1 ≠ 2 ∨ wholeK (findO (objs w) id).1.2.1=true then (w,3)
 else if (findO (objs w) id).1.2.2.2.2.1=false then (w,8)
 else if id ∈ lnk (findO (objs w) d).1 then (w,12)
 else if (laidF (objs w) (findO (objs w) d).1 (findO (objs w) id).1).2 ≠ 0 then (w,(laidF (objs w) (findO (objs w) d).1 (findO (objs w) id).1).2)
 else (putW w (laidF (objs w) (findO (objs w) d).1 (findO (objs w) id).1).1,0)
theorem F53_eq (w:D7) (d id:Int) (hw:Nice w) (hs:∀ x ∈ objs w,NiceO x) : F53 w d id=some (linkF w d id):=by
 have hf:=hw.few
 have hd:=findO_all hs zeroO_nice d
 have hi:=findO_all hs zeroO_nice id
 refine Def.eq ?_
 unfold F53 linkF
 rw [F69_eq w d (by omega) hw.ids,Option.bind_some,F69_eq w id (by omega) hw.ids,Option.bind_some,F70_eq (lnk (findO (objs w) d).1) id (by have:=hd.lns; omega) hd.lnk,Option.bind_some]
 simp only [letJ_eq]
 generalize findO (objs w) d=c at hd
 generalize findO (objs w) id=o at hi
 by_cases h1:c.2=false ∨ o.2=false
 ·rw [if_pos h1,if_pos]
  ·exact .ret rfl
  ·rcases h1 with h | h <;> simp [h]
 ·rw [if_neg h1]
  simp only [not_or,Bool.not_eq_false] at h1
  rw [if_neg (by simp [h1.1,h1.2])]
  refine Def.bindI (fun b=>b=wholeK o.1.2.1) (fun _=>?_) (fun v6 q6 n6=>?_)
  ·unfold F119 wholeK
   refine .ret ?_
   cases h:(o.1.2.1 == 2) <;> simp
  by_cases h2:c.1.2.1 ≠ 2 ∨ wholeK o.1.2.1=true
  ·rw [if_pos h2,if_pos]
   ·exact .ret rfl
   ·by_cases h:c.1.2.1=2
    ·have h' : wholeK o.1.2.1=true:=by
      rcases h2 with h2 | h2
      ·exact absurd h h2
      ·exact h2
     rw [q6 (by simp [h]),h']
     simp
    ·simp [h]
  ·rw [if_neg h2]
   simp only [not_or,Decidable.not_not] at h2
   rw [if_neg (by rw [q6 (by simp [h2.1])]; simp [h2.1,h2.2])]
   cases h3:o.1.2.2.2.2.1 with
   | false=>exact .ret rfl
   | true =>
    simp only [Bool.not_true,Bool.false_eq_true,Bool.true_eq_false,if_false]
    by_cases h4:id ∈ lnk c.1
    ·rw [if_pos h4,if_pos (by simpa using h4)]
     exact .ret rfl
    ·rw [if_neg h4,if_neg (by simpa using h4),F118_eq w _ _ hw hd hi,Option.bind_some]
     by_cases h5:(laidF (objs w) c.1 o.1).2=0
     ·rw [if_neg (by simpa using h5),if_neg (by simpa using h5),F74_eq w _ (by omega) hw.ids,Option.bind_some]
      exact .ret rfl
     ·rw [if_pos (by simpa using h5),if_pos h5]
      exact .ret rfl
def moveF (w:D7) (d id n:Int) : D7 × Int :=
 if (findO (objs w) d).2=false ∨ (findO (objs w) id).2=false ∨ id ∉ lnk (findO (objs w) d).1 then (w,1)
 else if (findO (objs w) id).1.2.2.2.2.1=true then (w,8)
 else if n < -4096 ∨ 4096 < n then (w,4)
 else if n > roomF (objs w) (findO (objs w) d).1 ∨ IntKind.wrap .i64 (quo (findO (objs w) id).1 + n) < max 1 (usesF (objs w) (pages (findO (objs w) id).1) (lnk (findO (objs w) id).1)) ∨ IntKind.wrap .i64 (quo (findO (objs w) id).1 + n) > 4096 then (w,5)
 else (putW w (sett6_3_1 (findO (objs w) id).1 (IntKind.wrap .i64 (quo (findO (objs w) id).1 + n))),0)
theorem F54_eq (w:D7) (d id n:Int) (hw:Nice w) (hs:∀ x ∈ objs w,NiceO x) : F54 w d id n=some (moveF w d id n):=by
 have hf:=hw.few
 have hd:=findO_all hs zeroO_nice d
 have hi:=findO_all hs zeroO_nice id
 refine Def.eq ?_
 unfold F54 moveF
 rw [F69_eq w d (by omega) hw.ids,Option.bind_some,F69_eq w id (by omega) hw.ids,Option.bind_some,F70_eq (lnk (findO (objs w) d).1) id (by have:=hd.lns; omega) hd.lnk,Option.bind_some]
 simp only [letJ_eq,letV_eq]
 generalize findO (objs w) d=c at hd
 generalize findO (objs w) id=o at hi
 by_cases h1:c.2=false ∨ o.2=false ∨ id ∉ lnk c.1
 ·rw [if_pos h1,if_pos]
  ·exact .ret rfl
  ·rcases h1 with h | h | h
   ·simp [h]
   ·simp [h]
   ·have h' : decide (id ∈ lnk c.1)=false:=by simpa using h
    rw [h']; simp
 ·rw [if_neg h1]
  simp only [not_or,Bool.not_eq_false,Decidable.not_not] at h1
  have h' : decide (id ∈ lnk c.1)=true:=by simpa using h1.2.2
  rw [if_neg (by rw [h']; simp [h1.1,h1.2.1])]
  cases h3:o.1.2.2.2.2.1 with
  | true=>exact .ret rfl
  | false =>
   simp only [Bool.false_eq_true,if_false]
   by_cases h4:n < -4096 ∨ 4096 < n
   ·rw [if_pos h4,if_pos]
    ·exact .ret rfl
    ·rcases h4 with h | h
     ·simp [h]
     ·by_cases h6:n < -4096 <;> simp [h,h6]
   ·rw [if_neg h4]
    simp only [not_or,Int.not_lt] at h4
    rw [if_neg (by simp; omega)]
    rw [F37_eq w c.1 (by omega) hw.ids hd.dat hd.lns,Option.bind_some]
    refine Def.bindI (fun b=>b=usesF (objs w) (pages o.1) (lnk o.1)) (fun _=>Def.of (F35_eq w o.1 (by omega) hw.ids hi.dat hi.lns) rfl) (fun v8 q8 _=>?_)
    have hm:∀ x:Int,(if decide (x > 1)=true then x else 1)=max 1 x:=fun x=>by
     by_cases h:x > 1
     ·rw [if_pos (by simpa using h)]; omega
     ·rw [if_neg (by simpa using h)]; omega
    rw [hm]
    unfold roomF
    by_cases h7:n > IntKind.wrap .i64 (quo c.1 - usesF (objs w) (pages c.1) (lnk c.1))
    ·rw [if_pos (by simp [h7])]
     exact .ret (by rw [if_pos (Or.inl h7)])
    ·have q:=q8 (by simp [h7])
     subst q
     have d7:decide (n > IntKind.wrap .i64 (quo c.1 - usesF (objs w) (pages c.1) (lnk c.1)))=false:=by simpa using h7
     rw [d7]
     simp only [Bool.false_eq_true,if_false]
     by_cases h8:IntKind.wrap .i64 (quo o.1 + n) < max 1 (usesF (objs w) (pages o.1) (lnk o.1))
     ·rw [if_pos (by rw [decide_eq_true h8]; simp)]
      exact .ret (by rw [if_pos (Or.inr (Or.inl h8))])
     ·rw [decide_eq_false h8]
      simp only [Bool.false_eq_true,if_false]
      by_cases h9:IntKind.wrap .i64 (quo o.1 + n) > 4096
      ·rw [if_pos (by simpa using h9)]
       exact .ret (by rw [if_pos (Or.inr (Or.inr h9))])
      ·rw [if_neg (by simpa using h9),F74_eq w _ (by omega) hw.ids,Option.bind_some]
       refine .ret ?_
       rw [if_neg]
       rintro (h | h | h)
       ·exact h7 h
       ·exact h8 h
       ·exact h9 h
theorem F39_eq (w:D7) (id:Int) (hw:Nice w) : F39 w id=some (holders (objs w) id):=by
 have hf:=hw.few
 refine Def.eq ?_
 unfold F39
 simp only [letJ_eq]
 refine Def.forB (l:=objs w) (fun s:Int × List Int=>s.1) (fun pre s=>s.2=holders pre id) (by omega) rfl rfl (fun pre v post s e hs hi=>?_) (fun s hs hi=>.done (.ret hi))
 have hv:v ∈ objs w:=by rw [e]; simp
 rw [hs]
 refine Def.bind' (Def.at e) (fun u hu=>?_)
 subst hu
 have hn:pre.length < (objs w).length:=by rw [e]; simp
 rw [F70_eq (lnk u) id (by have:=hw.lns u hv; omega) (hw.lnk u hv),Option.bind_some]
 by_cases hm:id ∈ lnk u
 ·simp only [hm,decide_true,if_true,Option.bind_some]
  have hh:=holders_len pre id
  rw [hi]
  refine Def.bind (Def.app (by simp only [List.length_cons,List.length_nil]; omega) (.turn ⟨rfl,?_⟩))
  have:(lnk u).contains id=true:=by simpa using hm
  rw [holders_app]
  simp only [holders,List.filter_cons,this,List.filter_nil,if_true,List.map_cons,List.map_nil]
 ·simp only [hm,decide_false,Bool.false_eq_true,if_false]
  refine .turn ⟨rfl,?_⟩
  have:(lnk u).contains id=false:=by simpa using hm
  simp only [hi,holders_app]
  simp only [holders,List.filter_cons,this,List.filter_nil,List.map_nil,List.append_nil]
  simp
end Go.Fn
namespace Go.Fn
set_option linter.unusedVariables false
open Go Go.Ab Go.Tx
theorem eqT_refl:∀ (t:Ty) (e:t.den → t.den → Bool),eqT t=some e → ∀ x,e x x=true:=by
 intro t
 induction t with
 | int k=>intro e h x; cases h; simp
 | bool=>intro e h x; cases h; simp
 | unit=>intro e h x; cases h; rfl
 | prod a b iha ihb =>
  intro e h x
  simp only [eqT] at h
  cases ha:eqT a with
  | none=>rw [ha] at h; cases h
  | some f =>
   cases hb:eqT b with
   | none=>rw [ha,hb] at h; cases h
   | some g=>rw [ha,hb] at h; cases h; simp [iha f ha x.1,ihb g hb x.2]
 | st a ih =>
  intro e h x
  simp only [eqT] at h
  cases ha:eqT a with
  | none=>rw [ha] at h; cases h
  | some f=>rw [ha] at h; cases h; exact ih f ha x
 | arr n t ih =>
  intro e h x
  simp only [eqT] at h
  cases ha:eqT t with
  | none=>rw [ha] at h; cases h
  | some f=>rw [ha] at h; cases h; simp [ih f ha]
 | _=>intro e h; cases h
theorem eqK_refl {t:Ty} (h:(eqT t).isSome=true) (x:t.den) : eqK t x x=true:=by
 unfold eqK
 cases he:eqT t with
 | none=>rw [he] at h; cases h
 | some e=>exact eqT_refl t e he x
theorem same_refl {α:Type} {a:List α} {c:Int → α → α → Bool} (hl:a.length ≤ big) (hc:∀ s v,c s v v=false) : (if (((List.length a:Nat) : Int) != ((List.length a:Nat) : Int))=true then some false else
  whileO (σ:=Int) (ρ:=Bool) (fun s=>if (decide (s < ((List.length a:Nat) : Int)))=true then Option.bind (idxO a s) fun v=>Option.bind (idxO a s) fun u=>if c s v u=true then done (some false) else turn (IntKind.wrap .i64 (s + (1:Int))) else done (some true)) (0:Int))=some true:=by
 refine Def.eq ?_
 refine Def.ite (fun h=>by simp at h) (fun _=>?_)
 refine Def.for1 (l:=a) (fun _=>True) hl trivial (fun pre v post e _=>?_) (fun _=>.done (.ret rfl))
 refine Def.bind' (Def.at e) (fun u hu=>?_)
 subst hu
 rw [if_neg (by rw [hc]; simp)]
 exact .turn ⟨rfl,trivial⟩
theorem F128_refl (a:List D0) (hl:a.length ≤ big) : F128 a a=some true:=by
 unfold F128
 simp only [letJ_eq]
 exact same_refl (c:=fun _ v u=>!(eqK (.prod (.int .u64) (.prod (.int .i64) .unit)) v u)) hl fun _ v=>by rw [eqK_refl (by rfl)]; rfl
theorem F139_refl (a:List Int) (hl:a.length ≤ big) : F139 a a=some true:=by
 unfold F139
 simp only [letJ_eq]
 exact same_refl (c:=fun _ v u=>v != u) hl fun _ v=>by simp
theorem F140_refl (a:List D1) (hl:a.length ≤ big) : F140 a a=some true:=by
 unfold F140
 simp only [letJ_eq]
 exact same_refl (c:=fun _ v u=>!(eqK (.prod (.int .i64) (.prod (.int .i64) (.prod (.int .u64) (.prod (.int .u64) (.prod (.int .i64) (.prod .bool .unit)))))) v u)) hl fun _ v=>by rw [eqK_refl (by rfl)]; rfl
theorem F141_refl (b:D4) (h1:b.2.2.1.length ≤ big) (h2:b.2.2.2.2.2.2.2.2.1.length ≤ big) (h3:∀ i,(b.2.2.2.2.2.2.2.2.2.2.1 i).length ≤ big) : F141 b b=some true:=by
 refine Def.eq ?_
 unfold F141
 simp only [letJ_eq,letV_eq]
 refine Def.times (n:=4) (by omega) (fun i h0 h4=>?_) ?_
 ·refine Def.bind (guard4 h0 h4 ?_)
  have hi:0 ≤ i ∧ i.toNat < 4:=⟨h0,by omega⟩
  have e:∀ f:Fin 4 → List D0,aidxO f i=some (f ⟨i.toNat,hi.2⟩):=fun f=>by rw [aidxO,dif_pos hi]
  rw [e,Option.bind_some]
  refine Def.bind (guard4 h0 h4 ?_)
  rw [Option.bind_some,F128_refl _ (h3 _),Option.bind_some]
  exact .turn rfl
 ·rw [F128_refl _ h1,F139_refl _ h2]
  have k1:=eqK_refl (t:=.arr 16 (.int .u64)) (by rfl) b.1
  have k2:=eqK_refl (t:=.prod (.int .u64) (.prod (.int .u64) .unit)) (by rfl) b.2.2.2.1
  have k3:=eqK_refl (t:=.prod t2 (.prod (.int .u64) (.prod (.int .u64) (.prod .bool .unit)))) (by rfl) b.2.2.2.2.2.2.2.1
  have k4:=eqK_refl (t:=.prod (.int .u64) (.prod (.int .u64) .unit)) (by rfl) b.2.2.2.2.2.2.2.2.2.1
  simp only [k1,k2,k3,k4,beq_self_eq_true,if_true,Bool.and_self,Option.bind_some]
  exact .done (.ret rfl)
theorem F142_refl (b:D5) (h1:b.1.length ≤ big) (h2:b.2.1.length ≤ big) : F142 b b=some true:=by
 unfold F142
 have k2:=eqK_refl (t:=.prod (.int .u64) (.prod (.int .u64) .unit)) (by rfl) b.2.2.1
 simp only [letV_eq,F128_refl _ h1,F128_refl _ h2,k2,beq_self_eq_true,if_true,Bool.and_self,Option.bind_some]
theorem F83_refl (b:D6) (h:OkO b) : F83 b b=some true:=by
 unfold F83
 have a1:=F128_refl _ h.lab
 have a2:=F139_refl _ h.lnk
 have a3:=F139_refl _ h.dat
 have a4:=F140_refl _ h.mps
 have a5:=F141_refl _ h.clr h.alr h.lbs
 have a6:=F142_refl _ h.gra h.gcl
 have a7:=F139_refl _ h.inn
 have a8:=F139_refl _ h.out
 simp only [lnk,dat,thr,gat] at a2 a3 a5 a6
 simp only [letV_eq,a1,a2,a3,a4,a5,a6,a7,a8,bne_self_eq_false,beq_self_eq_true,if_true,if_false,Bool.false_eq_true,Bool.not_false,Bool.not_true,Bool.and_self,Option.bind_some]
theorem F26_refl (w:D7) (hl:(objs w).length ≤ big) (h:∀ o ∈ objs w,OkO o) : F26 w w=some true:=by
 refine Def.eq ?_
 unfold F26
 simp only [letV_eq,letJ_eq,bne_self_eq_false,if_false,Bool.false_eq_true]
 refine Def.for1 (l:=objs w) (fun _=>True) hl trivial (fun pre v post e _=>?_) (fun _=>.done (.ret rfl))
 refine Def.bind' (Def.at e) (fun u hu=>?_)
 subst hu
 rw [F83_refl u (h u (by rw [e]; simp)),Option.bind_some]
 exact .turn ⟨rfl,trivial⟩
def lv (n:Int) : Int:=if n < 0 ∨ 5 < n then 2 else n
theorem F219_eq (n:Int) : F219 n=some (lv n):=by
 unfold F219 lv
 by_cases h1:n < 0
 ·simp [h1]
 ·by_cases h2:5 < n <;> simp [h1,h2]
theorem lv_in {n:Int} (h0:0 ≤ n) (h5:n ≤ 5) : lv n=n:=by
 unfold lv
 rw [if_neg (by omega)]
theorem F217_eq (l:List D0) (hl:l.length ≤ 1000) (hf:FitL l) : F217 l=some (raiseL l):=by
 refine Def.eq ?_
 unfold F217
 simp only [letJ_eq]
 refine Def.for2 (l:=l) (fun pre a=>a=raiseL pre) (by omega) rfl (fun pre v post a e hi=>?_) (fun a hi=>.done (.ret hi))
 have hlt:pre.length < l.length:=by rw [e]; simp
 obtain ⟨h0,h5,_⟩:=hf.lev v (by rw [e]; simp)
 subst hi
 refine Def.bind' (Def.at e) (fun u hu=>?_)
 subst hu
 have h271:F271 u.2.1=some (raiseN u.2.1):=by
  unfold F271 raiseN
  rw [F219_eq,lv_in h0 h5]
  by_cases h:u.2.1=0 <;> simp [h]
 rw [h271,Option.bind_some,Option.bind_some]
 refine Def.bind (Def.app (by simp only [raiseL,List.length_cons,List.length_nil,List.length_map]; omega) (.turn ⟨rfl,?_⟩))
 simp [raiseL]
theorem F159_eq (l:List D0) (c:Int) (hl:l.length ≤ big) : F159 l c=some (getL l c):=by
 refine Def.eq ?_
 unfold F159
 simp only [letJ_eq]
 refine Def.for1 (l:=l) (fun pre=>∀ p ∈ pre,p.1 ≠ c) hl (by simp) (fun pre v post e hi=>?_) (fun hi=>.done (.ret (getL_none hi).symm))
 have hn:pre.find? (fun p=>p.1 == c)=none:=List.find?_eq_none.2 fun p hp=>by simpa using hi p hp
 refine Def.ite (fun hc=>?_) (fun hc=>.turn ⟨rfl,?_⟩)
 ·refine Def.bind' (Def.at e) (fun u hu=>.done (.ret ?_))
  subst hu
  unfold getL
  rw [e,List.find?_append,hn,List.find?_cons,hc]
  rfl
 ·intro p hp
  rcases List.mem_append.1 hp with hp | hp
  ·exact hi p hp
  ·simp at hp; subst hp; simpa using hc
theorem F158_eq (a b:Int) : F158 a b=some (decide (lv a ≤ lv b)):=by
 unfold F158
 rw [F219_eq,F219_eq,Option.bind_some,Option.bind_some]
def leqB (a b:List D0) : Bool:=(a.all fun p=>decide (lv p.2.1 ≤ lv (getL b p.1))) && b.all fun q=>decide (lv (getL a q.1) ≤ lv q.2.1)
theorem F100_eq (a b:List D0) (ha:a.length ≤ big) (hb:b.length ≤ big) : F100 a b=some (leqB a b):=by
 refine Def.eq ?_
 unfold F100
 simp only [letJ_eq]
 refine Def.for1 (l:=a) (fun pre=>(pre.all fun p=>decide (lv p.2.1 ≤ lv (getL b p.1)))=true) ha rfl (fun pre v post e hi=>?_) (fun hi=>.done ?_)
 ·refine Def.bind' (Def.at e) (fun u hu=>?_)
  subst hu
  rw [F159_eq _ _ hb,Option.bind_some,F158_eq,Option.bind_some]
  refine Def.ite (fun hc=>.done (.ret ?_)) (fun hc=>.turn ⟨rfl,?_⟩)
  ·have hc:decide (lv u.2.1 ≤ lv (getL b u.1))=false:=by simpa using hc
   unfold leqB
   have:(a.all fun p=>decide (lv p.2.1 ≤ lv (getL b p.1)))=false:=by rw [e,List.all_append,List.all_cons,hc]; simp
   rw [this]; rfl
  ·rw [List.all_append,hi]
   simpa using hc
 ·refine Def.for1 (l:=b) (fun pre=>(pre.all fun q=>decide (lv (getL a q.1) ≤ lv q.2.1))=true) hb rfl (fun pre v post e hi2=>?_) (fun hi2=>.done (.ret ?_))
  ·rw [F159_eq _ _ ha,Option.bind_some]
   refine Def.bind' (Def.at e) (fun u hu=>?_)
   subst hu
   rw [F158_eq,Option.bind_some]
   refine Def.ite (fun hc=>.done (.ret ?_)) (fun hc=>.turn ⟨rfl,?_⟩)
   ·have hc:decide (lv (getL a u.1) ≤ lv u.2.1)=false:=by simpa using hc
    unfold leqB
    have:(b.all fun q=>decide (lv (getL a q.1) ≤ lv q.2.1))=false:=by rw [e,List.all_append,List.all_cons,hc]; simp
    rw [this]; simp
   ·rw [List.all_append,hi2]
    simpa using hc
  ·unfold leqB
   rw [hi,hi2]; rfl
def withL (l:List D0) (c n:Int) : List D0:=l.filter (fun p=>decide (p.1 < c)) ++ (if n=2 then [] else [(c,n,())]) ++ l.filter (fun p=>decide (c < p.1))
theorem F269_eq (l:List D0) (c n:Int) (hl:l.length ≤ 1000) (hr:l.Pairwise (fun a b=>a.1 < b.1)) : F269 l c n=some (withL l c n):=by
 refine Def.eq ?_
 unfold F269
 simp only [letJ_eq]
 let I:List D0 → List D0 × Bool × Int → Prop:=fun pre s =>
  s.1.length ≤ pre.length + 1 ∧ ((s.2.1=false ∧ n ≠ 2 ∧ s.1=pre.filter (fun p=>decide (p.1 < c)) ∧ ∀ p ∈ pre,p.1 ≤ c) ∨ (s.2.1=true ∧ s.1=withL pre c n ∧ (n=2 ∨ ∃ p ∈ pre,c < p.1)))
 refine Def.forB (l:=l) (fun s:List D0 × Bool × Int=>s.2.2) I (by omega) rfl ⟨by simp,?_⟩ (fun pre v post s e hs hi=>?_) (fun s hs hi=>?_)
 ·by_cases h:n=2
  ·exact .inr ⟨by simpa using h,by simp [withL,h],.inl h⟩
  ·exact .inl ⟨by simpa using h,h,rfl,by simp⟩
 ·obtain ⟨hlen,hi⟩:=hi
  have hlt:pre.length < l.length:=by rw [e]; simp
  have hv:idxO l s.2.2=some v:=by rw [hs,idxO_nat,e]; simp
  have hpv:∀ p ∈ pre,p.1 < v.1:=fun p hp=>by
   rw [e,List.pairwise_append] at hr
   exact hr.2.2 p hp v (by simp)
  have hfl:∀ q:D0 → Bool,(pre.filter q).length ≤ pre.length:=fun q=>List.length_filter_le _ _
  rw [hv]
  simp only [Option.bind_some]
  rcases hi with ⟨h1,hn,h2,h3⟩ | ⟨h1,h2,h3⟩
  ·rw [h1]
   simp only [Bool.not_false,Bool.and_self,if_true,Option.bind_some]
   refine Def.ite (fun hc=>?_) (fun hc=>?_)
   ·have hc:c < v.1:=by simpa using hc
    have hpc:pre.filter (fun p=>decide (c < p.1))=[]:=List.filter_eq_nil_iff.2 fun p hp=>by have:=h3 p hp; simp; omega
    refine Def.bind (Def.app (by simp only [List.length_cons,List.length_nil]; omega) ?_)
    rw [if_pos (by simp; omega)]
    refine Def.bind (Def.app (by simp only [List.length_append,List.length_cons,List.length_nil]; have:=hfl (fun p=>decide (p.1 < c)); omega) (.turn ⟨by rw [hs],?_,.inr ⟨rfl,?_,.inr ⟨v,by simp,hc⟩⟩⟩))
    ·rw [h2]; have:=hfl (fun p=>decide (p.1 < c)); simp only [List.length_append,List.length_cons,List.length_nil]; omega
    ·have hv1 : ¬ v.1 < c:=by omega
     simp [withL,hn,h2,List.filter_append,hpc,hc,hv1]
   ·have hc : ¬ c < v.1:=by simpa using hc
    by_cases hvc:v.1=c
    ·rw [if_neg (by simp [hvc])]
     refine .turn ⟨by rw [hs],by simp; omega,.inl ⟨rfl,hn,?_,?_⟩⟩
     ·have : ¬ v.1 < c:=by omega
      simp [h2,List.filter_append,this]
     ·intro p hp
      rcases List.mem_append.1 hp with hp | hp
      ·exact h3 p hp
      ·simp at hp; subst hp; omega
    ·rw [if_pos (by simpa using hvc)]
     refine Def.bind (Def.app (by simp only [List.length_cons,List.length_nil]; omega) (.turn ⟨by rw [hs],by simp; omega,.inl ⟨rfl,hn,?_,?_⟩⟩))
     ·have:v.1 < c:=by omega
      simp [h2,List.filter_append,this]
     ·intro p hp
      rcases List.mem_append.1 hp with hp | hp
      ·exact h3 p hp
      ·simp at hp; subst hp; omega
  ·rw [h1]
   simp only [Bool.not_true,Bool.false_and,Bool.false_eq_true,if_false,Option.bind_some]
   by_cases hvc:v.1=c
   ·rw [if_neg (by simp [hvc])]
    refine .turn ⟨by rw [hs],by simp; omega,.inr ⟨rfl,?_,?_⟩⟩
    ·have a1 : ¬ v.1 < c:=by omega
     have a2 : ¬ c < v.1:=by omega
     simp [h2,withL,List.filter_append,a1,a2]
    ·rcases h3 with h | ⟨p,hp,h⟩
     ·exact .inl h
     ·exact .inr ⟨p,by simp [hp],h⟩
   ·rw [if_pos (by simpa using hvc)]
    refine Def.bind (Def.app (by simp only [List.length_cons,List.length_nil]; omega) (.turn ⟨by rw [hs],?_,.inr ⟨rfl,?_,?_⟩⟩))
    ·simp only [List.length_append,List.length_cons,List.length_nil]; omega
    ·by_cases h:v.1 < c
     ·have a2 : ¬ c < v.1:=by omega
      have hpc:pre.filter (fun p=>decide (c < p.1))=[]:=List.filter_eq_nil_iff.2 fun p hp=>by have:=hpv p hp; simp; omega
      have hn:n=2:=by
       rcases h3 with h' | ⟨p,hp,h'⟩
       ·exact h'
       ·have:=hpv p hp; omega
      simp [h2,withL,List.filter_append,h,a2,hn,hpc]
     ·have a2:c < v.1:=by omega
      simp [h2,withL,List.filter_append,h,a2]
    ·rcases h3 with h | ⟨p,hp,h⟩
     ·exact .inl h
     ·exact .inr ⟨p,by simp [hp],h⟩
 ·obtain ⟨hlen,hi⟩:=hi
  rcases hi with ⟨h1,hn,h2,h3⟩ | ⟨h1,h2,h3⟩
  ·have hpc:l.filter (fun p=>decide (c < p.1))=[]:=List.filter_eq_nil_iff.2 fun p hp=>by have:=h3 p hp; simp; omega
   rw [h1]
   simp only [Bool.not_false,if_true,Option.bind_some]
   refine .done (Def.bind (Def.app (by simp only [List.length_cons,List.length_nil]; omega) (.ret ?_)))
   simp [withL,hn,h2,hpc]
  ·rw [h1]
   simp only [Bool.not_true,Bool.false_eq_true,if_false]
   exact .done (.ret h2)
end Go.Fn
namespace Go.Fn
set_option linter.unusedVariables false
open Go Go.Ab Go.Tx
theorem F270_eq (a b:Int) : F270 a b=some (if lv b < lv a then lv a else lv b):=by
 unfold F270
 simp only [F219_eq,Option.bind_some]
 by_cases h:lv b < lv a <;> simp [h]
def joinL (a:List D0) : List D0:=a.filter fun p=>decide (2 < p.2.1)
theorem F216_eq (a:List D0) (ha:a.length ≤ 500) (hr:a.Pairwise (fun a b=>a.1 < b.1)) (hl:∀ p ∈ a,0 ≤ p.2.1 ∧ p.2.1 ≤ 5) : F216 a []=some (joinL a):=by
 refine Def.eq ?_
 unfold F216
 simp only [letJ_eq]
 refine Def.for2 (l:=a) (fun pre s=>s=joinL pre ++ a.drop pre.length) (by omega) (by simp [joinL]) (fun pre v post s e hi=>?_) (fun s hi=>.done ?_)
 ·have hlt:pre.length < a.length:=by rw [e]; simp
  have hd:a.drop pre.length=v :: post:=by rw [e]; simp
  rw [hd] at hi
  have hr':=hr
  rw [e,List.pairwise_append,List.pairwise_cons] at hr'
  obtain ⟨_,⟨r2,r3⟩,r4⟩:=hr'
  have hsub:s.Sublist a:=by
   rw [hi,e]
   exact List.Sublist.append List.filter_sublist (List.Sublist.refl _)
  have hsl:s.length ≤ a.length:=hsub.length_le
  refine Def.bind' (Def.at e) (fun u hu=>?_)
  subst hu
  refine Def.bind' (Def.at e) (fun u' hu'=>?_)
  subst hu'
  obtain ⟨l0,l5⟩:=hl u' (by rw [e]; simp)
  rw [F159_eq [] _ (by simp),Option.bind_some,F270_eq,Option.bind_some,F269_eq _ _ _ (by omega) (hr.sublist hsub),Option.bind_some]
  refine .turn ⟨rfl,?_⟩
  have g2:getL [] u'.1=2:=rfl
  rw [g2,lv_in l0 l5,show lv 2=2 from rfl]
  have f1:s.filter (fun p=>decide (p.1 < u'.1))=joinL pre:=by
   rw [hi,List.filter_append,List.filter_cons,if_neg (by simp),List.filter_eq_self.2,List.filter_eq_nil_iff.2]
   ·simp
   ·intro p hp; have:=r2 p hp; simp; omega
   ·intro p hp; have:=r4 p (List.mem_filter.1 hp).1 u' (by simp); simpa using this
  have f2:s.filter (fun p=>decide (u'.1 < p.1))=post:=by
   rw [hi,List.filter_append,List.filter_cons,if_neg (by simp),List.filter_eq_nil_iff.2,List.filter_eq_self.2]
   ·simp
   ·intro p hp; have:=r2 p hp; simpa using this
   ·intro p hp; have:=r4 p (List.mem_filter.1 hp).1 u' (by simp); simp; omega
  have f3:a.drop (pre ++ [u']).length=post:=by rw [e]; simp
  simp only
  rw [withL,f1,f2,f3]
  have f4:joinL (pre ++ [u'])=joinL pre ++ if 2 < u'.2.1 then [u'] else []:=by
   unfold joinL
   rw [List.filter_append]
   by_cases h:2 < u'.2.1 <;> simp [h]
  rw [f4]
  by_cases h:2 < u'.2.1
  ·have h' : ¬ u'.2.1=2:=by omega
   simp [h,h']
  ·simp [h]
 ·rw [List.drop_length,List.append_nil] at hi
  refine Def.for2 (l:=([] : List D0)) (fun pre x=>x=joinL a) (by simp) hi (fun pre v post s e hi=>by cases pre <;> cases e) (fun s hi=>.done (.ret hi))
theorem getL_join {a:List D0} (hr:a.Pairwise (fun a b=>a.1 < b.1)) (c:Int) : getL (joinL a) c=max 2 (getL a c):=by
 have hj:(joinL a).Pairwise (fun a b=>a.1 < b.1):=hr.filter _
 by_cases h:∃ p ∈ a,p.1=c
 ·obtain ⟨p,hp,rfl⟩:=h
  rw [getL_mem hr p hp]
  by_cases h2:2 < p.2.1
  ·rw [getL_mem hj p (List.mem_filter.2 ⟨hp,by simpa using h2⟩)]; omega
  ·rw [getL_none fun q hq e=>?_]
   ·omega
   ·have hq':=List.mem_filter.1 hq
    have:=getL_mem hr q hq'.1
    rw [e,getL_mem hr p hp] at this
    have h3:2 < q.2.1:=by simpa using hq'.2
    omega
 ·rw [getL_none (l:=a) fun p hp e=>h ⟨p,hp,e⟩,getL_none (l:=joinL a) fun p hp e=>h ⟨p,(List.mem_filter.1 hp).1,e⟩]
  rfl
theorem getL_in {l:List D0} (hr:FitL l) (c:Int) : 0 ≤ getL l c ∧ getL l c ≤ 5:=by
 by_cases h:∃ p ∈ l,p.1=c
 ·obtain ⟨p,hp,rfl⟩:=h
  rw [getL_mem hr.rise p hp]; have:=hr.lev p hp; omega
 ·rw [getL_none fun p hp e=>h ⟨p,hp,e⟩]; omega
theorem raise_in {o:List D0} (h:FitL o) : ∀ p ∈ raiseL o,0 ≤ p.2.1 ∧ p.2.1 ≤ 5:=by
 intro p hp
 obtain ⟨q,hq,rfl⟩:=List.mem_map.1 hp
 have:=h.lev q hq
 simp only [raiseN]
 split <;> omega
theorem place_eq {d o:List D0} (hd:FitL d) (ho:FitL o) : leqB d (joinL (raiseL o))=placeB d o:=by
 have hr:=raiseL_rise ho
 have hg:∀ c,2 ≤ max 2 (getL (raiseL o) c) ∧ max 2 (getL (raiseL o) c) ≤ 5:=fun c=>by
  have:getL (raiseL o) c ≤ 5:=by
   by_cases h:∃ p ∈ raiseL o,p.1=c
   ·obtain ⟨p,hp,rfl⟩:=h
    rw [getL_mem hr p hp]; exact (raise_in ho p hp).2
   ·rw [getL_none fun p hp e=>h ⟨p,hp,e⟩]; omega
  omega
 have h1:(d.all fun p=>decide (lv p.2.1 ≤ lv (getL (joinL (raiseL o)) p.1)))=placeB d o:=by
  unfold placeB
  rw [Bool.eq_iff_iff,List.all_eq_true,List.all_eq_true]
  refine forall_congr' fun p=>forall_congr' fun hp=>?_
  have:=hd.lev p hp
  have h2:=hg p.1
  rw [getL_join hr,lv_in (by omega) (by omega),lv_in (by omega) h2.2]
 unfold leqB
 rw [h1]
 cases hp:placeB d o with
 | false=>rfl
 | true =>
  rw [Bool.true_and,List.all_eq_true]
  intro q hq
  have hq':=List.mem_filter.1 hq
  have q2:2 < q.2.1:=by simpa using hq'.2
  have q5:=(raise_in ho q hq'.1).2
  have hdi:=getL_in hd q.1
  rw [lv_in hdi.1 hdi.2,lv_in (by omega) q5,decide_eq_true_eq]
  by_cases h:∃ p ∈ d,p.1=q.1
  ·obtain ⟨p,hpd,e⟩:=h
   have:=List.all_eq_true.1 hp p hpd
   rw [e,getL_mem hr q hq'.1] at this
   rw [← e,getL_mem hd.rise p hpd]
   have:=of_decide_eq_true this
   omega
  ·rw [getL_none fun p hp e=>h ⟨p,hp,e⟩]; omega
theorem F153_eq (d o:List D0) (hd:d.length ≤ 400) (ho:o.length ≤ 400) (fd:FitL d) (fo:FitL o) : F153 d o=some (placeB d o):=by
 unfold F153
 have hj:(joinL (raiseL o)).length ≤ 400:=Nat.le_trans (List.length_filter_le _ _) (by simp [raiseL]; omega)
 rw [F217_eq o (by omega) fo,Option.bind_some,F216_eq _ (by simp [raiseL]; omega) (raiseL_rise fo) (raise_in fo),Option.bind_some,F100_eq _ _ (by unfold big; omega) (by unfold big; omega),Option.bind_some,place_eq fd fo]
end Go.Fn
namespace Go.Fn
set_option linter.unusedVariables false
open Go Go.Ab Go.Tx
structure NiceD (o:D6) : Prop extends NiceO o where
 lab4:o.2.2.1.length ≤ 400
theorem zeroO_niceD:NiceD (Ty.zero t6:D6):={ zeroO_nice with lab4:=by decide }
theorem F119_eq (k:Int) : F119 k=some (wholeK k):=by
 unfold F119 wholeK
 cases h:(k == 2) <;> simp
def fixF (w:D7) (id:Int) : D7 × Int :=
 if (findO (objs w) id).2=false then (w,1)
 else if wholeK (findO (objs w) id).1.2.1=true then (w,3)
 else (putW w (sett6_4_1 (findO (objs w) id).1 true),0)
theorem F57_eq (w:D7) (id:Int) (hw:Nice w) : F57 w id=some (fixF w id):=by
 have hf:=hw.few
 refine Def.eq ?_
 unfold F57 fixF
 rw [F69_eq w id (by omega) hw.ids,Option.bind_some]
 simp only [letJ_eq]
 cases h1:(findO (objs w) id).2 with
 | false=>exact .ret rfl
 | true =>
  simp only [Bool.not_true,Bool.false_eq_true,Bool.true_eq_false,if_false]
  rw [F119_eq,Option.bind_some]
  cases h2:wholeK (findO (objs w) id).1.2.1 with
  | true=>exact .ret rfl
  | false =>
   simp only [Bool.false_eq_true,if_false]
   rw [F74_eq w _ (by omega) hw.ids,Option.bind_some]
   exact .ret rfl
theorem okO_links {o:D6} {l:List Int} (h:OkO o) (hl:l.length ≤ big) : OkO (sett6_5_1 o l) :=
 ⟨h.lab,hl,h.dat,h.mps,h.clr,h.alr,h.lbs,h.gra,h.gcl,h.inn,h.out⟩
theorem okO_quo {o:D6} {q:Int} (h:OkO o) : OkO (sett6_3_1 o q) :=
 ⟨h.lab,h.lnk,h.dat,h.mps,h.clr,h.alr,h.lbs,h.gra,h.gcl,h.inn,h.out⟩
theorem okO_fix {o:D6} {b:Bool} (h:OkO o) : OkO (sett6_4_1 o b) :=
 ⟨h.lab,h.lnk,h.dat,h.mps,h.clr,h.alr,h.lbs,h.gra,h.gcl,h.inn,h.out⟩
theorem okO_zero:OkO (Ty.zero t6:D6):=⟨by decide,by decide,by decide,by decide,by decide,by decide,fun i=>Nat.zero_le _,by decide,by decide,by decide,by decide⟩
theorem laid_okO {l:List D6} {d o:D6} (hd:OkO d) (hk:(lnk d).length ≤ 1000) : OkO (laidF l d o).1:=by
 unfold laidF
 split
 ·exact hd
 split
 ·exact hd
 split
 ·exact hd
 ·exact okO_links hd (by have:=insL_len (lnk d) o.1; unfold big; omega)
end Go.Fn
namespace Go.Fn
set_option linter.unusedVariables false
open Go Go.Ab Go.Tx
theorem eqT_iff:∀ (t:Ty) (e:t.den → t.den → Bool),eqT t=some e → ∀ x y,e x y=true ↔ x=y:=by
 intro t
 induction t with
 | int k=>intro e h x y; cases h; simp
 | bool=>intro e h x y; cases h; simp
 | unit=>intro e h x y; cases h; simp
 | prod a b iha ihb =>
  intro e h x y
  simp only [eqT] at h
  cases ha:eqT a with
  | none=>rw [ha] at h; cases h
  | some f =>
   cases hb:eqT b with
   | none=>rw [ha,hb] at h; cases h
   | some g =>
    rw [ha,hb] at h; cases h
    simp only [Bool.and_eq_true,iha f ha,ihb g hb]
    exact ⟨fun h=>Prod.ext h.1 h.2,fun h=>by rw [h]; exact ⟨rfl,rfl⟩⟩
 | st a ih =>
  intro e h x y
  simp only [eqT] at h
  cases ha:eqT a with
  | none=>rw [ha] at h; cases h
  | some f=>rw [ha] at h; cases h; exact ih f ha x y
 | arr n t ih =>
  intro e h x y
  simp only [eqT] at h
  cases ha:eqT t with
  | none=>rw [ha] at h; cases h
  | some f =>
   rw [ha] at h; cases h
   simp only [List.all_eq_true,ih f ha]
   exact ⟨fun h=>funext fun i=>h i (List.mem_finRange i),fun h i _=>by rw [h]⟩
 | _=>intro e h; cases h
theorem eqK_iff {t:Ty} (h:(eqT t).isSome=true) (x y:t.den) : eqK t x y=true ↔ x=y:=by
 unfold eqK
 cases he:eqT t with
 | none=>rw [he] at h; cases h
 | some e=>exact eqT_iff t e he x y
theorem same_iff {α:Type} {a b:List α} {c:Int → α → α → Bool} (hl:b.length ≤ big) (hc:∀ s v u,c s v u=false ↔ v=u) : Def (if (((List.length a:Nat) : Int) != ((List.length b:Nat) : Int))=true then some false else
  whileO (σ:=Int) (ρ:=Bool) (fun s=>if (decide (s < ((List.length a:Nat) : Int)))=true then Option.bind (idxO a s) fun v=>Option.bind (idxO b s) fun u=>if c s v u=true then done (some false) else turn (IntKind.wrap .i64 (s + (1:Int))) else done (some true)) (0:Int))
  fun r=>r=true ↔ a=b:=by
 refine Def.ite (fun h=>.ret ⟨fun h=>(by cases h),fun e=>by rw [e] at h; simp at h⟩) (fun h=>?_)
 have hn:a.length=b.length:=by simp at h; exact_mod_cast h
 refine Def.for1 (l:=a) (fun pre=>b.take pre.length=pre) (by rw [hn]; exact hl) (by simp) (fun pre v post e hi=>?_) (fun hi=>?_)
 ·have hlt:pre.length < b.length:=by rw [← hn,e]; simp
  refine Def.bind (Def.idx (by omega) (by exact_mod_cast hlt) (fun u hu _=>?_))
  simp only [Int.toNat_natCast] at hu
  refine Def.ite (fun hc'=>.done (.ret ⟨fun h=>(by cases h),fun eab=>?_⟩)) (fun hc'=>.turn ⟨rfl,?_⟩)
  ·rw [← eab,e] at hu
   simp at hu
   have:=(hc pre.length v u).2 hu
   rw [this] at hc'; cases hc'
  ·have hvu:=(hc _ _ _).1 (by simpa using hc')
   rw [List.length_append,List.length_singleton,List.take_add_one,hi,hu,hvu]; rfl
 ·refine .done (.ret ⟨fun _=>?_,fun _=>rfl⟩)
  rw [hn,List.take_length] at hi
  exact hi.symm
theorem F128_iff (a b:List D0) (hl:b.length ≤ big) : Def (F128 a b) fun r=>r=true ↔ a=b:=by
 unfold F128
 simp only [letJ_eq]
 exact same_iff (c:=fun _ v u=>!(eqK (.prod (.int .u64) (.prod (.int .i64) .unit)) v u)) hl fun _ v u=>by
  rw [Bool.not_eq_eq_eq_not,Bool.not_false]; exact eqK_iff (by rfl) v u
theorem F139_iff (a b:List Int) (hl:b.length ≤ big) : Def (F139 a b) fun r=>r=true ↔ a=b:=by
 unfold F139
 simp only [letJ_eq]
 exact same_iff (c:=fun _ v u=>v != u) hl fun _ v u=>by simp
theorem F140_iff (a b:List D1) (hl:b.length ≤ big) : Def (F140 a b) fun r=>r=true ↔ a=b:=by
 unfold F140
 simp only [letJ_eq]
 exact same_iff (c:=fun _ v u=>!(eqK (.prod (.int .i64) (.prod (.int .i64) (.prod (.int .u64) (.prod (.int .u64) (.prod (.int .i64) (.prod .bool .unit)))))) v u)) hl fun _ v u=>by
  rw [Bool.not_eq_eq_eq_not,Bool.not_false]; exact eqK_iff (by rfl) v u
def ownedL (l:List D0) : List Int:=(l.filter fun p=>p.2.1 == 0).map (·.1)
theorem ownedL_snoc (l:List D0) (v:D0) : ownedL (l ++ [v])=ownedL l ++ if v.2.1 == 0 then [v.1] else []:=by
 unfold ownedL
 rw [List.filter_append,List.map_append]
 cases h:(v.2.1 == 0) <;> simp [List.filter_cons,h]
theorem ownedL_len (l:List D0) : (ownedL l).length ≤ l.length:=by
 unfold ownedL
 rw [List.length_map]; exact List.length_filter_le _ _
theorem F96_eq (l:List D0) (hl:l.length ≤ 1000000) : F96 l=some (ownedL l):=by
 refine Def.eq ?_
 unfold F96
 simp only [letJ_eq]
 refine Def.for2 (l:=l) (fun pre a=>a=ownedL pre) (by omega) rfl (fun pre v post a e hi=>?_) (fun a hi=>.done (.ret hi))
 have hlt:pre.length < l.length:=by rw [e]; simp
 have:=ownedL_len pre
 subst hi
 refine Def.ite (fun h=>?_) (fun h=>.turn ⟨rfl,?_⟩)
 ·refine Def.bind' (Def.at e) (fun u hu=>Def.bind (.ret (Def.bind (Def.app (by simp only [List.length_cons,List.length_nil]; omega) (.turn ⟨rfl,?_⟩)))))
  subst hu
  rw [ownedL_snoc,if_pos h]
 ·rw [ownedL_snoc,if_neg h,List.append_nil]
theorem Def.times' {ρ:Type} {n:Nat} {A:Int → Option (Int ⊕ ρ)} {E:Int → Option (Int ⊕ ρ)} {Q:ρ → Prop} (I:Nat → Prop) (hn:n ≤ 1000000) (h0:I 0)
  (hb:∀ i:Nat,i < n → I i → Def (A i) fun r=>match r with | .inl s=>s=IntKind.wrap .i64 ((i:Int) + 1) ∧ I (i + 1) | .inr r=>Q r)
  (he:I n → Def (E (n:Int)) fun r=>match r with | .inl _=>False | .inr r=>Q r) :
  Def (whileO (fun s=>if decide (s < (n:Int))=true then A s else E s) (0:Int)) Q:=by
 refine Def.loop (fun i:Int=>0 ≤ i ∧ i ≤ n ∧ I i.toNat) (fun i:Int=>n - i.toNat) ⟨by simp,by omega,h0⟩ (fun i hi=>?_)
 obtain ⟨h1,h2,h3⟩:=hi
 obtain ⟨k,rfl⟩ : ∃ k:Nat,i=k:=⟨i.toNat,by omega⟩
 simp only [Int.toNat_natCast] at h3
 refine Def.ite (fun hc=>?_) (fun hc=>?_)
 ·have hlt:k < n:=by simpa using hc
  refine (hb k hlt h3).mono fun r hr=>?_
  cases r with
  | inr r=>exact hr
  | inl s =>
   obtain ⟨hr,hk⟩:=hr
   rw [wrap_i64 (by omega) (by omega)] at hr
   subst hr
   exact ⟨⟨by omega,by omega,by rw [show ((k:Int) + 1).toNat=k + 1 by omega]; exact hk⟩,by omega⟩
 ·have e:k=n:=by simp at hc; omega
  subst e
  refine (he h3).mono fun r hr=>?_
  cases r with
  | inl s=>exact hr.elim
  | inr r=>exact hr
theorem aidx4 {α:Type} {f:Fin 4 → α} {i:Nat} (h:i < 4) : aidxO f (i:Int)=some (f ⟨i,h⟩):=by
 rw [aidxO,dif_pos ⟨by omega,by simpa using h⟩]
 simp
theorem guard4' {i:Nat} (h:i < 4) : guardO (if (decide ((0:Int) ≤ (i:Int)))=true then (decide ((i:Int) < (4:Int))) else false)=some ():=by
 have h4:(i:Int) < 4:=by omega
 have h0:(0:Int) ≤ i:=by omega
 rw [guardO,if_pos (by simp [h4,h0])]
theorem D4_ext {a b:D4} (h1:a.1=b.1) (h2:a.2.1=b.2.1) (h3:a.2.2.1=b.2.2.1) (h4:a.2.2.2.1=b.2.2.2.1) (h5:a.2.2.2.2.1=b.2.2.2.2.1) (h6:a.2.2.2.2.2.1=b.2.2.2.2.2.1) (h7:a.2.2.2.2.2.2.1=b.2.2.2.2.2.2.1) (h8:a.2.2.2.2.2.2.2.1=b.2.2.2.2.2.2.2.1) (h9:a.2.2.2.2.2.2.2.2.1=b.2.2.2.2.2.2.2.2.1) (h10:a.2.2.2.2.2.2.2.2.2.1=b.2.2.2.2.2.2.2.2.2.1) (h11:a.2.2.2.2.2.2.2.2.2.2.1=b.2.2.2.2.2.2.2.2.2.2.1) : a=b:=by
 obtain ⟨_,_,_,_,_,_,_,_,_,_,_,_⟩:=a
 obtain ⟨_,_,_,_,_,_,_,_,_,_,_,_⟩:=b
 simp only at h1 h2 h3 h4 h5 h6 h7 h8 h9 h10 h11
 subst h1; subst h2; subst h3; subst h4; subst h5; subst h6; subst h7; subst h8; subst h9; subst h10; subst h11
 rfl
theorem F141_iff (a b:D4) (h1:b.2.2.1.length ≤ big) (h2:b.2.2.2.2.2.2.2.2.1.length ≤ big) (h3:∀ i,(b.2.2.2.2.2.2.2.2.2.2.1 i).length ≤ big) : Def (F141 a b) fun r=>r=true ↔ a=b:=by
 unfold F141
 simp only [letJ_eq,letV_eq]
 refine Def.times' (n:=4) (fun k=>∀ i:Fin 4,i.1 < k → a.2.2.2.2.2.2.2.2.2.2.1 i=b.2.2.2.2.2.2.2.2.2.2.1 i) (by omega) (fun i h=>absurd h (by omega)) (fun i h4 hi=>?_) (fun hi=>?_)
 ·rw [guard4' h4,aidx4 h4,aidx4 h4]
  simp only [Option.bind_some]
  refine Def.bind' (F128_iff _ _ (h3 _)) (fun v hv=>?_)
  refine Def.ite (fun hc=>.done (.ret ⟨fun h=>(by cases h),fun e=>?_⟩)) (fun hc=>.turn ⟨rfl,fun k hk=>?_⟩)
  ·have hv' : v=true:=hv.2 (by rw [e])
   rw [hv'] at hc; simp at hc
  ·have hv' : v=true:=by simpa using hc
   by_cases hki:k.1 < i
   ·exact hi k hki
   ·have:k=⟨i,h4⟩:=Fin.ext (by simp only; omega)
    rw [this]; exact hv.1 hv'
 ·have hl:a.2.2.2.2.2.2.2.2.2.2.1=b.2.2.2.2.2.2.2.2.2.2.1:=funext fun i=>hi i i.2
  have k1:=eqK_iff (t:=.arr 16 (.int .u64)) (by rfl) a.1 b.1
  have k2:=eqK_iff (t:=.prod (.int .u64) (.prod (.int .u64) .unit)) (by rfl) a.2.2.2.1 b.2.2.2.1
  have k3:=eqK_iff (t:=.prod t2 (.prod (.int .u64) (.prod (.int .u64) (.prod .bool .unit)))) (by rfl) a.2.2.2.2.2.2.2.1 b.2.2.2.2.2.2.2.1
  have k4:=eqK_iff (t:=.prod (.int .u64) (.prod (.int .u64) .unit)) (by rfl) a.2.2.2.2.2.2.2.2.2.1 b.2.2.2.2.2.2.2.2.2.1
  refine Def.done (Def.bindI _ (fun _=>F128_iff _ _ h1) (fun v2 q2 _=>Def.bindI _ (fun _=>F139_iff _ _ h2) (fun v4 q4 _=>.ret ⟨fun hr=>?_,fun e=>?_⟩)))
  ·simp only [Bool.if_false_right,Bool.and_eq_true,decide_eq_true_eq,Bool.and_true,beq_iff_eq,k1,k2,k3,k4] at hr q2 q4
   obtain ⟨⟨⟨⟨⟨⟨⟨⟨⟨r1,r2⟩,r3⟩,r4⟩,r5⟩,r6⟩,r7⟩,r8⟩,r9⟩,r10⟩:=hr
   exact D4_ext r1 r2 ((q2 ⟨r1,r2⟩).1 r3) r4 r5 r6 r7 r8 ((q4 ⟨⟨⟨⟨⟨⟨⟨r1,r2⟩,r3⟩,r4⟩,r5⟩,r6⟩,r7⟩,r8⟩).1 r9) r10 hl
  ·subst e
   simp only [Bool.if_false_right,Bool.and_eq_true,decide_eq_true_eq,Bool.and_true,beq_iff_eq,k1,k2,k3,k4] at q2 q4 ⊢
   have e2:=(q2 ⟨trivial,trivial⟩).2 trivial
   subst e2
   have e4:=(q4 (by simp)).2 trivial
   subst e4
   simp
end Go.Fn
namespace Go.Fn
set_option linter.unusedVariables false
open Go Go.Ab Go.Tx
theorem D5_ext {a b:D5} (h1:a.1=b.1) (h2:a.2.1=b.2.1) (h3:a.2.2.1=b.2.2.1) (h4:a.2.2.2.1=b.2.2.2.1) (h5:a.2.2.2.2.1=b.2.2.2.2.1) : a=b:=by
 obtain ⟨_,_,_,_,_,_⟩:=a
 obtain ⟨_,_,_,_,_,_⟩:=b
 simp only at h1 h2 h3 h4 h5
 subst h1; subst h2; subst h3; subst h4; subst h5
 rfl
theorem D6_ext {a b:D6} (h1:a.1=b.1) (h2:a.2.1=b.2.1) (h3:a.2.2.1=b.2.2.1) (h4:a.2.2.2.1=b.2.2.2.1) (h5:a.2.2.2.2.1=b.2.2.2.2.1) (h6:a.2.2.2.2.2.1=b.2.2.2.2.2.1) (h7:a.2.2.2.2.2.2.1=b.2.2.2.2.2.2.1) (h8:a.2.2.2.2.2.2.2.1=b.2.2.2.2.2.2.2.1) (h9:a.2.2.2.2.2.2.2.2.1=b.2.2.2.2.2.2.2.2.1) (h10:a.2.2.2.2.2.2.2.2.2.1=b.2.2.2.2.2.2.2.2.2.1) (h11:a.2.2.2.2.2.2.2.2.2.2.1=b.2.2.2.2.2.2.2.2.2.2.1) (h12:a.2.2.2.2.2.2.2.2.2.2.2.1=b.2.2.2.2.2.2.2.2.2.2.2.1) : a=b:=by
 obtain ⟨_,_,_,_,_,_,_,_,_,_,_,_,_⟩:=a
 obtain ⟨_,_,_,_,_,_,_,_,_,_,_,_,_⟩:=b
 simp only at h1 h2 h3 h4 h5 h6 h7 h8 h9 h10 h11 h12
 subst h1; subst h2; subst h3; subst h4; subst h5; subst h6; subst h7; subst h8; subst h9; subst h10; subst h11; subst h12
 rfl
theorem F142_iff (a b:D5) (h1:b.1.length ≤ big) (h2:b.2.1.length ≤ big) : Def (F142 a b) fun r=>r=true ↔ a=b:=by
 have k2:=eqK_iff (t:=.prod (.int .u64) (.prod (.int .u64) .unit)) (by rfl) a.2.2.1 b.2.2.1
 unfold F142
 simp only [letV_eq]
 refine Def.bind' (F128_iff _ _ h1) (fun v q=>Def.bindI _ (fun _=>F128_iff _ _ h2) (fun v2 q2 _=>.ret ⟨fun hr=>?_,fun e=>?_⟩))
 ·simp only [Bool.if_false_right,Bool.and_eq_true,decide_eq_true_eq,Bool.and_true,beq_iff_eq,k2] at hr q2
  obtain ⟨⟨⟨⟨r1,r2⟩,r3⟩,r4⟩,r5⟩:=hr
  exact D5_ext (q.1 r1) ((q2 r1).1 r2) r3 r4 r5
 ·subst e
  have e1:=q.2 rfl
  subst e1
  have e2:=(q2 rfl).2 rfl
  subst e2
  simp [k2]
theorem F83_iff (a b:D6) (h:OkO b) : Def (F83 a b) fun r=>r=true ↔ a=b:=by
 unfold F83
 simp only [letV_eq]
 refine Def.bindI _ (fun _=>F128_iff _ _ h.lab) (fun v2 q2 _=>?_)
 refine Def.ite (fun hc=>.ret ⟨fun h=>(by cases h),fun e=>?_⟩) (fun hc=>?_)
 ·subst e
  have:=(q2 (by simp)).2 rfl
  subst this
  simp at hc
 ·simp at hc q2
  obtain ⟨⟨⟨⟨c1,c2⟩,c3⟩,c4⟩,c5⟩:=hc
  have c3:=(q2 c1 c2).1 c3
  refine Def.bind' (F139_iff _ _ h.lnk) (fun v4 q4=>?_)
  refine Def.bindI _ (fun _=>F139_iff _ _ h.dat) (fun v5 q5 _=>?_)
  refine Def.bindI _ (fun _=>F140_iff _ _ h.mps) (fun v6 q6 _=>?_)
  refine Def.bindI _ (fun _=>F141_iff _ _ h.clr h.alr h.lbs) (fun v7 q7 _=>?_)
  refine Def.bindI _ (fun _=>F142_iff _ _ h.gra h.gcl) (fun v8 q8 _=>?_)
  refine Def.bindI _ (fun _=>F139_iff _ _ h.inn) (fun v9 q9 _=>?_)
  refine Def.bindI _ (fun _=>F139_iff _ _ h.out) (fun v10 q10 _=>.ret ⟨fun hr=>?_,fun e=>?_⟩)
  ·simp only [Bool.if_false_right,Bool.and_eq_true,decide_eq_true_eq,Bool.and_true] at hr q5 q6 q7 q8 q9 q10
   obtain ⟨⟨⟨⟨⟨⟨r4,r5⟩,r6⟩,r7⟩,r8⟩,r9⟩,r10⟩:=hr
   exact D6_ext c1 c2 c3 c4 c5 (q4.1 r4) ((q5 r4).1 r5) ((q6 ⟨r4,r5⟩).1 r6) ((q7 ⟨⟨r4,r5⟩,r6⟩).1 r7) ((q8 ⟨⟨⟨r4,r5⟩,r6⟩,r7⟩).1 r8) ((q9 ⟨⟨⟨⟨r4,r5⟩,r6⟩,r7⟩,r8⟩).1 r9) ((q10 ⟨⟨⟨⟨⟨r4,r5⟩,r6⟩,r7⟩,r8⟩,r9⟩).1 r10)
  ·subst e
   simp only [Bool.if_false_right,Bool.and_eq_true,decide_eq_true_eq,Bool.and_true] at q5 q6 q7 q8 q9 q10 ⊢
   have e4:=q4.2 rfl
   subst e4
   have e5:=(q5 rfl).2 trivial
   subst e5
   have e6:=(q6 (by simp)).2 trivial
   subst e6
   have e7:=(q7 (by simp)).2 trivial
   subst e7
   have e8:=(q8 (by simp)).2 trivial
   subst e8
   have e9:=(q9 (by simp)).2 trivial
   subst e9
   have e10:=(q10 (by simp)).2 trivial
   subst e10
   simp
structure Alone (o:D6) : Prop where
 lnk:o.2.1 ≠ 2 → lnk o=[]
 dat:o.2.1 ≠ 1 → dat o=[]
 mps:o.2.1 ≠ 3 → o.2.2.2.2.2.2.2.1=[]
 thr:o.2.1 ≠ 4 → thr o=Ty.zero t4
 gat:o.2.1 ≠ 5 → gat o=Ty.zero t5
 inn:o.2.1 ≠ 6 → o.2.2.2.2.2.2.2.2.2.2.1=[]
 out:o.2.1 ≠ 6 → o.2.2.2.2.2.2.2.2.2.2.2.1=[]
theorem F95_iff (o:D6) (h:OkO o) : Def (F95 o) fun r=>r=true ↔ Alone o:=by
 have key:∀ x:D6,(x=o ↔ Alone o) → Def (Option.bind (F83 x o) fun v2=>some v2) fun r=>r=true ↔ Alone o:=by
  intro x hx
  refine Def.bind' (F83_iff x o h) (fun v q=>.ret ?_)
  exact q.trans hx
 have fwd:∀ (k:Int) (x:D6),o.2.1=k → x=o → (k ≠ 2 → lnk x=[]) → (k ≠ 1 → dat x=[]) → (k ≠ 3 → x.2.2.2.2.2.2.2.1=[]) → (k ≠ 4 → thr x=Ty.zero t4) → (k ≠ 5 → gat x=Ty.zero t5) → (k ≠ 6 → x.2.2.2.2.2.2.2.2.2.2.1=[]) → (k ≠ 6 → x.2.2.2.2.2.2.2.2.2.2.2.1=[]) → Alone o:=by
  rintro k x rfl rfl h1 h2 h3 h4 h5 h6 h7
  exact ⟨h1,h2,h3,h4,h5,h6,h7⟩
 unfold F95
 simp only [letJ_eq]
 by_cases e1:o.2.1=1
 ·rw [if_pos (by simpa using e1)]
  refine key _ ⟨fun e=>fwd 1 _ e1 e (fun _=>rfl) (fun h=>absurd rfl h) (fun _=>rfl) (fun _=>rfl) (fun _=>rfl) (fun _=>rfl) (fun _=>rfl),fun ⟨a1,a2,a3,a4,a5,a6,a7⟩=>D6_ext rfl rfl rfl rfl rfl (a1 (by omega)).symm rfl (a3 (by omega)).symm (a4 (by omega)).symm (a5 (by omega)).symm (a6 (by omega)).symm (a7 (by omega)).symm⟩
 rw [if_neg (by simpa using e1)]
 by_cases e2:o.2.1=2
 ·rw [if_pos (by simpa using e2)]
  refine key _ ⟨fun e=>fwd 2 _ e2 e (fun h=>absurd rfl h) (fun _=>rfl) (fun _=>rfl) (fun _=>rfl) (fun _=>rfl) (fun _=>rfl) (fun _=>rfl),fun ⟨a1,a2,a3,a4,a5,a6,a7⟩=>D6_ext rfl rfl rfl rfl rfl rfl (a2 (by omega)).symm (a3 (by omega)).symm (a4 (by omega)).symm (a5 (by omega)).symm (a6 (by omega)).symm (a7 (by omega)).symm⟩
 rw [if_neg (by simpa using e2)]
 by_cases e3:o.2.1=3
 ·rw [if_pos (by simpa using e3)]
  refine key _ ⟨fun e=>fwd 3 _ e3 e (fun _=>rfl) (fun _=>rfl) (fun h=>absurd rfl h) (fun _=>rfl) (fun _=>rfl) (fun _=>rfl) (fun _=>rfl),fun ⟨a1,a2,a3,a4,a5,a6,a7⟩=>D6_ext rfl rfl rfl rfl rfl (a1 (by omega)).symm (a2 (by omega)).symm rfl (a4 (by omega)).symm (a5 (by omega)).symm (a6 (by omega)).symm (a7 (by omega)).symm⟩
 rw [if_neg (by simpa using e3)]
 by_cases e4:o.2.1=4
 ·rw [if_pos (by simpa using e4)]
  refine key _ ⟨fun e=>fwd 4 _ e4 e (fun _=>rfl) (fun _=>rfl) (fun _=>rfl) (fun h=>absurd rfl h) (fun _=>rfl) (fun _=>rfl) (fun _=>rfl),fun ⟨a1,a2,a3,a4,a5,a6,a7⟩=>D6_ext rfl rfl rfl rfl rfl (a1 (by omega)).symm (a2 (by omega)).symm (a3 (by omega)).symm rfl (a5 (by omega)).symm (a6 (by omega)).symm (a7 (by omega)).symm⟩
 rw [if_neg (by simpa using e4)]
 by_cases e5:o.2.1=5
 ·rw [if_pos (by simpa using e5)]
  refine key _ ⟨fun e=>fwd 5 _ e5 e (fun _=>rfl) (fun _=>rfl) (fun _=>rfl) (fun _=>rfl) (fun h=>absurd rfl h) (fun _=>rfl) (fun _=>rfl),fun ⟨a1,a2,a3,a4,a5,a6,a7⟩=>D6_ext rfl rfl rfl rfl rfl (a1 (by omega)).symm (a2 (by omega)).symm (a3 (by omega)).symm (a4 (by omega)).symm rfl (a6 (by omega)).symm (a7 (by omega)).symm⟩
 rw [if_neg (by simpa using e5)]
 by_cases e6:o.2.1=6
 ·rw [if_pos (by simpa using e6)]
  refine key _ ⟨fun e=>fwd 6 _ e6 e (fun _=>rfl) (fun _=>rfl) (fun _=>rfl) (fun _=>rfl) (fun _=>rfl) (fun h=>absurd rfl h) (fun h=>absurd rfl h),fun ⟨a1,a2,a3,a4,a5,a6,a7⟩=>D6_ext rfl rfl rfl rfl rfl (a1 (by omega)).symm (a2 (by omega)).symm (a3 (by omega)).symm (a4 (by omega)).symm (a5 (by omega)).symm rfl rfl⟩
 rw [if_neg (by simpa using e6)]
 exact key _ ⟨fun e=>fwd _ _ rfl e (fun _=>rfl) (fun _=>rfl) (fun _=>rfl) (fun _=>rfl) (fun _=>rfl) (fun _=>rfl) (fun _=>rfl),fun ⟨a1,a2,a3,a4,a5,a6,a7⟩=>D6_ext rfl rfl rfl rfl rfl (a1 e2).symm (a2 e1).symm (a3 e3).symm (a4 e4).symm (a5 e5).symm (a6 e6).symm (a7 e6).symm⟩
end Go.Fn
namespace Go.Fn
set_option linter.unusedVariables false
open Go Go.Ab Go.Tx
theorem fit_mid {l pre post:List D0} {v:D0} (e:l=pre ++ v :: post) (h:FitL l) : (0 ≤ v.2.1 ∧ v.2.1 ≤ 5 ∧ v.2.1 ≠ 2) ∧ ∀ u,pre.getLast? = some u → u.1 < v.1:=by
 refine ⟨h.lev v (by rw [e]; simp),fun u hu=>?_⟩
 have hr:=h.rise
 rw [e,List.pairwise_append] at hr
 exact hr.2.2 u (List.mem_of_getLast? hu) v (by simp)
theorem fit_snoc {pre:List D0} {v:D0} (h:FitL pre) (hl:0 ≤ v.2.1 ∧ v.2.1 ≤ 5 ∧ v.2.1 ≠ 2) (hp:∀ u,pre.getLast? = some u → u.1 < v.1) : FitL (pre ++ [v]):=by
 refine ⟨?_,?_⟩
 ·rw [List.pairwise_append]
  refine ⟨h.rise,by simp,fun x hx y hy=>?_⟩
  simp only [List.mem_singleton] at hy; subst hy
  cases hg:pre.getLast? with
  | none=>rw [List.getLast?_eq_none_iff.1 hg] at hx; cases hx
  | some u =>
   have hu:=hp u hg
   have hr:=h.rise
   obtain ⟨ys,rfl⟩:=List.getLast?_eq_some_iff.1 hg
   rw [List.pairwise_append] at hr
   rcases List.mem_append.1 hx with hx | hx
   ·have:=hr.2.2 x hx u (by simp); omega
   ·simp at hx; subst hx; omega
 ·intro p hp'
  rcases List.mem_append.1 hp' with hp' | hp'
  ·exact h.lev p hp'
  ·simp at hp'; subst hp'; exact hl
theorem last_none {α:Type} {pre:List α} (h : ¬ 0 < pre.length) : ∀ u,pre.getLast? = some u → False:=fun u hu=>by
 have:pre=[]:=List.length_eq_zero_iff.1 (by omega)
 rw [this] at hu; cases hu
theorem F155_iff (l:List D0) (hl:l.length ≤ big) : Def (F155 l) fun b=>b=true ↔ FitL l:=by
 unfold F155
 simp only [letJ_eq,F218,Option.bind_some]
 refine Def.for1 (l:=l) (fun pre=>FitL pre) hl ⟨List.Pairwise.nil,by simp⟩ (fun pre v post e hi=>?_) (fun hi=>.done (.ret ⟨fun _=>hi,fun _=>rfl⟩))
 refine Def.bindI _ (fun _=>Def.at e) (fun v4 q4 _=>?_)
 refine Def.bindI _ (fun hc=>Def.prev e hl (by simp at hc; omega)) (fun v5 q5 _=>?_)
 refine Def.bindI _ (fun _=>Def.at e) (fun v6 q6 _=>?_)
 simp at q4 q5 q6
 refine Def.ite (fun hc=>.done (.ret ⟨fun h=>(by cases h),fun hf=>?_⟩)) (fun hc=>.turn ⟨rfl,?_⟩)
 ·obtain ⟨⟨h0,h5,h2⟩,hp⟩:=fit_mid e hf
  have e4:=q4 h0 h5
  subst e4
  simp [h0,h5,h2] at hc
  obtain ⟨hpos,hge⟩:=hc
  have:=hp _ (q5 h0 h5 h2 hpos)
  have e6:=q6 h0 h5 h2 hpos
  rw [e6] at hge
  omega
 ·simp at hc
  obtain ⟨⟨⟨h0,h5⟩,h2⟩,hp⟩:=hc
  have e4:=q4 h0 h5
  subst e4
  refine fit_snoc hi ⟨h0,h5,h2⟩ fun u hu=>?_
  by_cases hpos:0 < pre.length
  ·have h1:=q5 h0 h5 h2 hpos
   have h3:=hp hpos
   rw [q6 h0 h5 h2 hpos] at h3
   rw [hu] at h1; cases h1
   omega
  ·exact (last_none hpos u hu).elim
structure KeptL (l:List D0) : Prop where
 len:l.length ≤ 16
 fit:FitL l
 low:∀ p ∈ l,p.2.1 ≠ 5
theorem F94_iff (l:List D0) (hl:l.length ≤ big) : Def (F94 l) fun b=>b=true ↔ KeptL l:=by
 unfold F94
 simp only [letJ_eq]
 refine Def.for1 (l:=l) (fun pre=>∀ p ∈ pre,p.2.1 ≠ 5) hl (by simp) (fun pre v post e hi=>?_) (fun hi=>?_)
 ·refine Def.ite (fun hc=>.done (.ret ⟨fun h=>(by cases h),fun hk=>?_⟩)) (fun hc=>.turn ⟨rfl,fun p hp=>?_⟩)
  ·exact absurd (by simpa using hc) (hk.low v (by rw [e]; simp))
  ·rcases List.mem_append.1 hp with hp | hp
   ·exact hi p hp
   ·simp at hp; subst hp; simpa using hc
 ·refine Def.done (Def.bindI _ (fun _=>F155_iff l hl) (fun b q _=>.ret ?_))
  by_cases h' : ((l.length:Nat) : Int) ≤ 16
  ·rw [if_pos (by simpa using h')]
   show b=true ↔ KeptL l
   rw [q (by simpa using h')]
   exact ⟨fun h=>⟨by omega,h,hi⟩,fun h=>h.fit⟩
  ·rw [if_neg (by simpa using h')]
   exact ⟨fun h=>(by cases h),fun h=>by have:=h.len; omega⟩
def LeqP (a b:List D0) : Prop:=(∀ p ∈ a,p.2.1 ≤ getL b p.1) ∧ ∀ q ∈ b,getL a q.1 ≤ q.2.1
theorem leqB_iff {a b:List D0} (ha:FitL a) (hb:FitL b) : leqB a b=true ↔ LeqP a b:=by
 unfold leqB LeqP
 rw [Bool.and_eq_true,List.all_eq_true,List.all_eq_true]
 refine and_congr (forall_congr' fun p=>forall_congr' fun hp=>?_) (forall_congr' fun q=>forall_congr' fun hq=>?_)
 ·have h1:=ha.lev p hp
  have h2:=getL_in hb p.1
  rw [lv_in h1.1 h1.2.1,lv_in h2.1 h2.2,decide_eq_true_eq]
 ·have h1:=hb.lev q hq
  have h2:=getL_in ha q.1
  rw [lv_in h1.1 h1.2.1,lv_in h2.1 h2.2,decide_eq_true_eq]
theorem FitL.tail {p:D0} {l:List D0} (h:FitL (p :: l)) : FitL l:=⟨(List.pairwise_cons.1 h.rise).2,fun q hq=>h.lev q (by simp [hq])⟩
theorem F100_iff (a b:List D0) (hla:a.length ≤ 1000) (hlb:b.length ≤ 1000) (ha:FitL a) (hb:FitL b) : Def (F100 a b) fun r=>r=true ↔ LeqP a b :=
 ⟨_,F100_eq a b (by unfold big; omega) (by unfold big; omega),leqB_iff ha hb⟩
end Go.Fn
namespace Go.Fn
set_option linter.unusedVariables false
open Go Go.Ab Go.Tx
def Adj {α:Type} (R:α → α → Prop) (l:List α) : Prop:=∀ pre u v post,l=pre ++ u :: v :: post → R u v
theorem adj_mid {α:Type} {R:α → α → Prop} {l pre post:List α} {v:α} (e:l=pre ++ v :: post) (h:Adj R l) : ∀ u,pre.getLast? = some u → R u v:=by
 intro u hu
 obtain ⟨ys,rfl⟩:=List.getLast?_eq_some_iff.1 hu
 exact h ys u v post (by rw [e]; simp)
theorem adj_snoc {α:Type} {R:α → α → Prop} {pre:List α} {v:α} (h:Adj R pre) (hp:∀ u,pre.getLast? = some u → R u v) : Adj R (pre ++ [v]):=by
 intro p u w post e
 rcases List.eq_nil_or_concat post with rfl | ⟨q,x,rfl⟩
 ·have e' : pre ++ [v]=(p ++ [u]) ++ [w]:=by rw [e]; simp
  obtain ⟨e1,e2⟩:=List.append_inj' e' rfl
  cases e2
  exact hp u (by rw [e1]; simp)
 ·have e' : pre ++ [v]=(p ++ u :: w :: q) ++ [x]:=by rw [e]; simp
  obtain ⟨e1,_⟩:=List.append_inj' e' rfl
  exact h p u w q e1
theorem adj_nil {α:Type} {R:α → α → Prop}:Adj R ([] : List α):=by
 intro p u v q e
 cases p <;> cases e
theorem rise_snoc {α:Type} {key:α → Int} {pre:List α} {v:α} (h:pre.Pairwise (fun a b=>key a < key b)) (hp:∀ u,pre.getLast? = some u → key u < key v) : (pre ++ [v]).Pairwise (fun a b=>key a < key b):=by
 rw [List.pairwise_append]
 refine ⟨h,by simp,fun x hx y hy=>?_⟩
 simp only [List.mem_singleton] at hy; subst hy
 cases hg:pre.getLast? with
 | none=>rw [List.getLast?_eq_none_iff.1 hg] at hx; cases hx
 | some u =>
  have hu:=hp u hg
  obtain ⟨ys,rfl⟩:=List.getLast?_eq_some_iff.1 hg
  rw [List.pairwise_append] at h
  rcases List.mem_append.1 hx with hx | hx
  ·have:=h.2.2 x hx u (by simp); omega
  ·simp at hx; subst hx; omega
theorem rise_mid {α:Type} {key:α → Int} {l pre post:List α} {v:α} (e:l=pre ++ v :: post) (h:l.Pairwise (fun a b=>key a < key b)) : ∀ u,pre.getLast? = some u → key u < key v:=by
 intro u hu
 rw [e,List.pairwise_append] at h
 exact h.2.2 u (List.mem_of_getLast? hu) v (by simp)
structure RisP (l:List Int) : Prop where
 rise:l.Pairwise (· < ·)
 id:∀ x ∈ l,1 ≤ x ∧ x ≤ 2305843009213693952
theorem F97_iff (l:List Int) (hl:l.length ≤ big) : Def (F97 l) fun b=>b=true ↔ RisP l:=by
 unfold F97
 simp only [letJ_eq,F93,Option.bind_some]
 refine Def.for1 (l:=l) (fun pre=>RisP pre) hl ⟨List.Pairwise.nil,by simp⟩ (fun pre v post e hi=>?_) (fun hi=>.done (.ret ⟨fun _=>hi,fun _=>rfl⟩))
 refine Def.bindI _ (fun hc=>Def.prev e hl (by simp at hc; omega)) (fun u hu _=>?_)
 refine Def.bindI _ (fun hc=>Def.at e) (fun v' hv _=>?_)
 simp at hu hv
 refine Def.ite (fun hc=>.done (.ret ⟨fun h=>(by cases h),fun hr=>?_⟩)) (fun hc=>.turn ⟨rfl,?_⟩)
 ·have hid:=hr.id v (by rw [e]; simp)
  have hm:=rise_mid (key:=fun x=>x) e hr.rise
  simp [hid] at hc
  have h1:=hm u (hu hid.1 hid.2 hc.1)
  have h2:=hv hid.1 hid.2 hc.1
  rw [h2] at hc
  have:=hc.2
  omega
 ·simp at hc
  obtain ⟨⟨c1,c2⟩,c3⟩:=hc
  refine ⟨rise_snoc (key:=fun x=>x) hi.rise fun w hw=>?_,fun x hx=>?_⟩
  ·by_cases hpos:0 < pre.length
   ·have h1:=hu c1 c2 hpos
    have h3:=c3 hpos
    rw [hv c1 c2 hpos] at h3
    rw [hw] at h1; cases h1
    exact h3
   ·exact (last_none hpos w hw).elim
  ·rcases List.mem_append.1 hx with hx | hx
   ·exact hi.id x hx
   ·simp at hx; subst hx; exact ⟨c1,c2⟩
structure OneP (m:D1) : Prop where
 va:0 ≤ m.1 ∧ m.1 < 1048576
 off:0 ≤ m.2.2.2.2.1 ∧ m.2.2.2.2.1 < 1048576
 n:1 ≤ m.2.1 ∧ m.2.1 ≤ 1048576 - m.1 ∧ m.2.1 ≤ 1048576 - m.2.2.2.2.1
theorem F156_iff (m:D1) : Def (F156 m) fun b=>b=true ↔ OneP m:=by
 unfold F156
 simp only [letV_eq]
 refine .ret ?_
 simp only [Bool.if_false_right,Bool.and_eq_true,decide_eq_true_eq]
 constructor
 ·rintro ⟨⟨⟨⟨⟨⟨⟨h1,h2⟩,h3⟩,h4⟩,h5⟩,h6⟩,h7⟩,h8⟩
  rw [wrap_i64 (by omega) (by omega)] at h7 h8
  exact ⟨⟨by omega,h2⟩,⟨by omega,h4⟩,by omega,h7,h8⟩
 ·rintro ⟨⟨h1,h2⟩,⟨h3,h4⟩,h5,h6,h7⟩
  rw [wrap_i64 (by omega) (by omega),wrap_i64 (by omega) (by omega)]
  exact ⟨⟨⟨⟨⟨⟨⟨h1,h2⟩,h3⟩,h4⟩,h5⟩,by omega⟩,h6⟩,h7⟩
structure PagP (l:List D1) : Prop where
 len:l.length ≤ 16
 one:∀ m ∈ l,OneP m
 adj:Adj (fun u v:D1=>IntKind.wrap .i64 (u.1 + u.2.1) ≤ v.1) l
theorem F98_iff (l:List D1) : Def (F98 l) fun b=>b=true ↔ PagP l:=by
 unfold F98
 refine Def.ite (fun h=>.ret ⟨fun h=>(by cases h),fun hp=>?_⟩) (fun hn=>?_)
 ·have:=hp.len
  simp at h; omega
 simp only [letJ_eq]
 have hl:l.length ≤ 16:=by simp at hn; omega
 refine Def.for1 (l:=l) (fun pre=>(∀ m ∈ pre,OneP m) ∧ Adj (fun u v:D1=>IntKind.wrap .i64 (u.1 + u.2.1) ≤ v.1) pre) (by omega) ⟨by simp,adj_nil⟩ (fun pre v post e hi=>?_) (fun hi=>.done (.ret ⟨fun _=>⟨hl,hi.1,hi.2⟩,fun _=>rfl⟩))
 refine Def.bind' (F156_iff v) (fun v3 q3=>?_)
 refine Def.bindI _ (fun hc=>Def.prev e (by omega) (by simp at hc; omega)) (fun v4 q4 _=>?_)
 refine Def.bindI _ (fun hc=>Def.prev e (by omega) (by simp at hc; omega)) (fun v5 q5 _=>?_)
 refine Def.bindI _ (fun _=>Def.at e) (fun v6 q6 _=>?_)
 simp at q4 q5 q6
 refine Def.ite (fun hc=>.done (.ret ⟨fun h=>(by cases h),fun hp=>?_⟩)) (fun hc=>.turn ⟨rfl,fun m hm=>?_,adj_snoc hi.2 fun u hu=>?_⟩)
 ·have e3:=q3.2 (hp.one v (by rw [e]; simp))
  subst e3
  simp at hc
  have h1:=q4 rfl hc.1
  have h2:=q5 rfl hc.1
  have h3:=q6 rfl hc.1
  rw [h1] at h2; cases h2
  have:=adj_mid e hp.adj v4 h1
  rw [h3] at hc
  omega
 ·simp at hc
  rcases List.mem_append.1 hm with hm | hm
  ·exact hi.1 m hm
  ·simp at hm; subst hm; exact q3.1 hc.1
 ·simp at hc
  obtain ⟨rfl,hc⟩:=hc
  by_cases hpos:0 < pre.length
  ·have h1:=q4 rfl hpos
   have h2:=q5 rfl hpos
   have h3:=hc hpos
   rw [q6 rfl hpos] at h3
   rw [hu] at h1 h2; cases h1; cases h2
   exact h3
  ·exact (last_none hpos u hu).elim
end Go.Fn
namespace Go.Fn
set_option linter.unusedVariables false
open Go Go.Ab Go.Tx
def spanB (s:D2) : Bool:=(if (decide (s.1 ≤ s.2.1))=true then (decide (s.2.1 ≤ (2305843009213693952:Int))) else false)
structure ThrP (l:List D0) (t:D4) : Prop where
 labs:∀ i,KeptL (t.2.2.2.2.2.2.2.2.2.2.1 i)
 wait:t.2.2.2.2.2.2.1 ≠ 1 → t.2.2.2.2.2.2.2.1=Ty.zero t3
 clr:KeptL t.2.2.1
 leq:LeqP l t.2.2.1
 state:0 ≤ t.2.2.2.2.2.2.1 ∧ t.2.2.2.2.2.2.1 ≤ 2
 alr:t.2.2.2.2.2.2.2.2.1.length ≤ 8
 span:spanB t.2.2.2.2.2.2.2.2.2.1=true
theorem F99_iff (l:List D0) (t:D4) (hl:KeptL l) (h1:t.2.2.1.length ≤ big) (h3:∀ i,(t.2.2.2.2.2.2.2.2.2.2.1 i).length ≤ big) : Def (F99 l t) fun b=>b=true ↔ ThrP l t:=by
 have k3:=eqK_iff (t:=.prod t2 (.prod (.int .u64) (.prod (.int .u64) (.prod .bool .unit)))) (by rfl) t.2.2.2.2.2.2.2.1 (Ty.zero t3:D3)
 unfold F99
 simp only [letJ_eq,letV_eq]
 refine Def.times' (n:=4) (fun k=>∀ i:Fin 4,i.1 < k → KeptL (t.2.2.2.2.2.2.2.2.2.2.1 i)) (by omega) (fun i h=>absurd h (by omega)) (fun i h4 hi=>?_) (fun hi=>?_)
 ·rw [guard4' h4,aidx4 h4]
  simp only [Option.bind_some]
  refine Def.bind' (F94_iff _ (h3 _)) (fun v hv=>?_)
  refine Def.ite (fun hc=>.done (.ret ⟨fun h=>(by cases h),fun e=>?_⟩)) (fun hc=>.turn ⟨rfl,fun k hk=>?_⟩)
  ·have hv' : v=true:=hv.2 (e.labs _)
   rw [hv'] at hc; simp at hc
  ·have hv' : v=true:=by simpa using hc
   by_cases hki:k.1 < i
   ·exact hi k hki
   ·have:k=⟨i,h4⟩:=Fin.ext (by simp only; omega)
    rw [this]; exact hv.1 hv'
 ·have hl4:∀ i,KeptL (t.2.2.2.2.2.2.2.2.2.2.1 i):=fun i=>hi i i.2
  refine Def.done (Def.ite (fun hc=>.ret ⟨fun h=>(by cases h),fun hp=>?_⟩) (fun hc=>?_))
  ·simp only [Bool.if_false_right,Bool.and_eq_true,decide_eq_true_eq,bne_iff_ne,ne_eq,Bool.not_eq_true',← Bool.not_eq_true,k3] at hc
   exact (hc.2 (hp.wait hc.1)).elim
  ·simp only [Bool.if_false_right,Bool.and_eq_true,decide_eq_true_eq,bne_iff_ne,ne_eq,Bool.not_eq_true',← Bool.not_eq_true,k3] at hc
   have hw:t.2.2.2.2.2.2.1 ≠ 1 → t.2.2.2.2.2.2.2.1=Ty.zero t3:=fun h=>Classical.byContradiction fun h'=>hc ⟨h,h'⟩
   refine Def.bind' (F94_iff _ h1) (fun v2 q2=>?_)
   refine Def.bindI (fun v3=>v3=true ↔ LeqP l t.2.2.1) (fun hc=>?_) (fun v3 q3 _=>?_)
   ·have hk:=q2.1 (by simpa using hc)
    exact F100_iff _ _ (by have:=hl.len; omega) (by have:=hk.len; omega) hl.fit hk.fit
   refine Def.bindI (fun v4=>v4=spanB t.2.2.2.2.2.2.2.2.2.1) (fun _=>.ret rfl) (fun v4 q4 _=>.ret ⟨fun hr=>?_,fun hp=>?_⟩)
   ·simp only [Bool.if_false_right,Bool.and_eq_true,decide_eq_true_eq,Bool.and_true] at hr q3 q4
    obtain ⟨⟨⟨⟨⟨r2,r3⟩,r4⟩,r5⟩,r6⟩,r7⟩:=hr
    exact ⟨hl4,hw,q2.1 r2,(q3 r2).1 r3,⟨r4,r5⟩,by omega,by rw [← q4 ⟨⟨⟨⟨r2,r3⟩,r4⟩,r5⟩,r6⟩]; exact r7⟩
   ·have e2:=q2.2 hp.clr
    subst e2
    have e3:=(q3 (by simp)).2 hp.leq
    subst e3
    have hs:=hp.state
    have ha:=hp.alr
    simp only [Bool.if_false_right,Bool.and_eq_true,decide_eq_true_eq,Bool.and_true] at q4 ⊢
    have h8:((t.2.2.2.2.2.2.2.2.1.length:Nat) : Int) ≤ 8:=by omega
    have e4:=q4 (by simp [hs,h8])
    rw [hp.span] at e4
    simp [hs,h8,e4]
structure InnerP (o:D6) : Prop where
 seg:o.2.1=1 → ((dat o).length:Int) ≤ 16 * (quo o - 1)
 con:o.2.1=2 → (lnk o).length ≤ 64 ∧ RisP (lnk o)
 spa:o.2.1=3 → PagP o.2.2.2.2.2.2.2.1
 thr:o.2.1=4 → ThrP o.2.2.1 (thr o) ∧ o.2.2.2.2.1=false
 gat:o.2.1=5 → KeptL (gat o).1 ∧ KeptL (gat o).2.1 ∧ LeqP (gat o).1 (gat o).2.1
 dev:o.2.1=6 → o.2.2.2.2.2.2.2.2.2.2.1.length ≤ 64 ∧ o.2.2.2.2.2.2.2.2.2.2.2.1.length ≤ 1024
structure SndP (o:D6) : Prop where
 id:1 ≤ o.1 ∧ o.1 ≤ 2305843009213693952
 kind:1 ≤ o.2.1 ∧ o.2.1 ≤ 6
 lab:KeptL o.2.2.1
 quo:1 ≤ quo o ∧ quo o ≤ 4096
 own:o.2.1 ≠ 4 → ownedL o.2.2.1=[]
 alone:Alone o
 inner:InnerP o
theorem inner_of (o:D6) (k:Int) (e:o.2.1=k) (h1:k=1 → ((dat o).length:Int) ≤ 16 * (quo o - 1)) (h2:k=2 → (lnk o).length ≤ 64 ∧ RisP (lnk o)) (h3:k=3 → PagP o.2.2.2.2.2.2.2.1) (h4:k=4 → ThrP o.2.2.1 (thr o) ∧ o.2.2.2.2.1=false) (h5:k=5 → KeptL (gat o).1 ∧ KeptL (gat o).2.1 ∧ LeqP (gat o).1 (gat o).2.1) (h6:k=6 → o.2.2.2.2.2.2.2.2.2.2.1.length ≤ 64 ∧ o.2.2.2.2.2.2.2.2.2.2.2.1.length ≤ 1024) : InnerP o:=by
 subst e; exact ⟨h1,h2,h3,h4,h5,h6⟩
theorem no {p:Prop} {a b:Int} (h:a ≠ b) : a=b → p:=fun e=>absurd e h
theorem gate_iff (a b:List D0) (ha:a.length ≤ big) (hb:b.length ≤ big) : Def (Option.bind (F94 a) fun v6=>Option.bind (if (v6 && true)=true then (F94 b) else some false) fun v7=>Option.bind (if ((if v6=true then v7 else false) && true)=true then (F100 a b) else some false) fun v8=>some (if (if v6=true then v7 else false)=true then v8 else false)) fun r=>r=true ↔ KeptL a ∧ KeptL b ∧ LeqP a b:=by
 refine Def.bind' (F94_iff _ ha) (fun v6 q6=>Def.bindI _ (fun _=>F94_iff _ hb) (fun v7 q7 _=>Def.bindI (fun v8=>v8=true ↔ LeqP a b) (fun hc=>?_) (fun v8 q8 _=>.ret ⟨fun hr=>?_,fun hp=>?_⟩)))
 ·simp only [Bool.if_false_right,Bool.and_eq_true,decide_eq_true_eq,Bool.and_true] at hc q7
  have k1:=q6.1 hc.1
  have k2:=(q7 hc.1).1 hc.2
  exact F100_iff _ _ (by have:=k1.len; omega) (by have:=k2.len; omega) k1.fit k2.fit
 ·simp only [Bool.if_false_right,Bool.and_eq_true,decide_eq_true_eq,Bool.and_true] at hr q7 q8
  obtain ⟨⟨r1,r2⟩,r3⟩:=hr
  exact ⟨q6.1 r1,(q7 r1).1 r2,(q8 ⟨r1,r2⟩).1 r3⟩
 ·obtain ⟨p1,p2,p3⟩:=hp
  have e6:=q6.2 p1
  subst e6
  have e7:=(q7 (by simp)).2 p2
  subst e7
  have e8:=(q8 (by simp)).2 p3
  subst e8
  simp
theorem dev_iff {a b:Nat} (r:Bool) (hr:r=(if (decide (((a:Nat) : Int) ≤ (64:Int)))=true then (decide (((b:Nat) : Int) ≤ (1024:Int))) else false)) : r=true ↔ a ≤ 64 ∧ b ≤ 1024:=by
 subst hr
 simp only [Bool.if_false_right,Bool.and_eq_true,decide_eq_true_eq]
 omega
theorem F34_iff (o:D6) (h:OkO o) : Def (F34 o) fun b=>b=true ↔ SndP o:=by
 unfold F34
 simp only [F93,Option.bind_some,letV_eq,letJ_eq]
 refine Def.bindI _ (fun _=>F94_iff _ h.lab) (fun v2 q2 _=>?_)
 refine Def.bindI _ (fun _=>F95_iff o h) (fun v4 q4 _=>?_)
 refine Def.ite (fun hc=>.ret ⟨fun h=>(by cases h),fun hp=>?_⟩) (fun hc=>?_)
 ·obtain ⟨p1,p2,p3,p4,p5,p6,p7⟩:=hp
  have e2:=(q2 (by simp [p1,p2])).2 p3
  subst e2
  have e4:=(q4 (by simp only [quo] at p4; simp [p1,p2,p4])).2 p6
  subst e4
  simp only [quo] at p4
  simp [p1,p2,p4] at hc
  omega
 simp at hc
 obtain ⟨⟨⟨⟨⟨⟨hid,hk1⟩,hk2⟩,hv2⟩,hq1⟩,hq2⟩,hv4⟩:=hc
 have hkept:=(q2 (by simp [hid,hk1,hk2])).1 hv2
 have hal:=(q4 (by simp [hid,hk1,hk2,hv2,hq1,hq2])).1 hv4
 rw [F96_eq _ (by have:=hkept.len; omega)]
 refine Def.bindI (fun v=>v=ownedL o.2.2.1) (fun _=>.ret rfl) (fun v5 q5 _=>?_)
 refine Def.ite (fun hc=>.ret ⟨fun h=>(by cases h),fun hp=>?_⟩) (fun hc=>?_)
 ·by_cases e4:o.2.1=4
  ·simp [e4] at hc
  ·have:=q5 (by simp [e4])
   rw [hp.own e4] at this
   subst this
   simp at hc
 have hown:o.2.1 ≠ 4 → ownedL o.2.2.1=[]:=fun e4=>by
  have:=q5 (by simp [e4])
  subst this
  simp [e4] at hc
  exact hc
 have mk:InnerP o → SndP o:=fun hi=>⟨hid,⟨hk1,hk2⟩,hkept,⟨hq1,hq2⟩,hown,hal,hi⟩
 have fin:∀ b:Bool,(b=true ↔ InnerP o) → (b=true ↔ SndP o):=fun b hb=>⟨fun h=>mk (hb.1 h),fun h=>hb.2 h.inner⟩
 by_cases e1:o.2.1=1
 ·rw [if_pos (by simpa using e1)]
  refine .ret (fin _ ?_)
  rw [wrap_i64 (x:=o.2.2.2.1 - 1) (by omega) (by omega),wrap_i64 (by omega) (by omega),decide_eq_true_eq]
  exact ⟨fun h=>inner_of o 1 e1 (fun _=>h) (no (by decide)) (no (by decide)) (no (by decide)) (no (by decide)) (no (by decide)),fun h=>h.seg e1⟩
 rw [if_neg (by simpa using e1)]
 by_cases e2:o.2.1=2
 ·rw [if_pos (by simpa using e2)]
  refine Def.bindI _ (fun _=>F97_iff _ h.lnk) (fun v6 q6 _=>.ret (fin _ ?_))
  constructor
  ·intro hb
   simp only [Bool.if_false_right,Bool.and_eq_true,decide_eq_true_eq] at hb
   have hr:=(q6 (by simpa using hb.1)).1 hb.2
   exact inner_of o 2 e2 (no (by decide)) (fun _=>⟨by simp only [lnk]; omega,hr⟩) (no (by decide)) (no (by decide)) (no (by decide)) (no (by decide))
  ·intro hi
   obtain ⟨h64,hr⟩:=hi.con e2
   have h64' : ((o.2.2.2.2.2.1.length:Nat) : Int) ≤ 64:=by simp only [lnk] at h64; omega
   rw [if_pos (by simpa using h64')]
   exact (q6 (by simpa using h64')).2 hr
 rw [if_neg (by simpa using e2)]
 by_cases e3:o.2.1=3
 ·rw [if_pos (by simpa using e3)]
  refine Def.bind' (F98_iff _) (fun v6 q6=>.ret (fin _ (q6.trans ?_)))
  exact ⟨fun h=>inner_of o 3 e3 (no (by decide)) (no (by decide)) (fun _=>h) (no (by decide)) (no (by decide)) (no (by decide)),fun h=>h.spa e3⟩
 rw [if_neg (by simpa using e3)]
 by_cases e4:o.2.1=4
 ·rw [if_pos (by simpa using e4)]
  refine Def.bind' (F99_iff _ _ hkept h.clr h.lbs) (fun v6 q6=>.ret (fin _ ?_))
  have:((if v6=true then (!o.2.2.2.2.1) else false)=true) ↔ ThrP o.2.2.1 (thr o) ∧ o.2.2.2.2.1=false:=by
   rw [← q6]
   cases v6 <;> simp
  exact this.trans ⟨fun h=>inner_of o 4 e4 (no (by decide)) (no (by decide)) (no (by decide)) (fun _=>h) (no (by decide)) (no (by decide)),fun h=>h.thr e4⟩
 rw [if_neg (by simpa using e4)]
 by_cases e5:o.2.1=5
 ·rw [if_pos (by simpa using e5)]
  refine (gate_iff _ _ h.gra h.gcl).mono fun r hr=>fin _ (hr.trans ?_)
  exact ⟨fun h=>inner_of o 5 e5 (no (by decide)) (no (by decide)) (no (by decide)) (no (by decide)) (fun _=>h) (no (by decide)),fun h=>h.gat e5⟩
 rw [if_neg (by simpa using e5)]
 have e6:o.2.1=6:=by omega
 refine .ret (fin _ ((dev_iff _ rfl).trans ?_))
 exact ⟨fun h=>inner_of o 6 e6 (no (by decide)) (no (by decide)) (no (by decide)) (no (by decide)) (no (by decide)) (fun _=>h),fun h=>h.dev e6⟩
structure FitP (w:D7) : Prop where
 time:0 ≤ w.1 ∧ w.1 ≤ 1099511627776
 few:(objs w).length ≤ 1024
 ids:Ris w
 snd:∀ o ∈ objs w,SndP o
theorem F13_iff (w:D7) (hn:(objs w).length ≤ big) (h:∀ o ∈ objs w,OkO o) : Def (F13 w) fun b=>b=true ↔ FitP w:=by
 unfold F13
 refine Def.ite (fun hc=>.ret ⟨fun h=>(by cases h),fun hp=>?_⟩) (fun hc=>?_)
 ·have h1:=hp.time
  have h2:=hp.few
  simp only [objs] at h2
  simp at hc; omega
 simp at hc
 simp only [letJ_eq]
 refine Def.for1 (l:=objs w) (fun pre=>pre.Pairwise (fun a b=>a.1 < b.1) ∧ ∀ o ∈ pre,SndP o) hn ⟨List.Pairwise.nil,by simp⟩ (fun pre v post e hi=>?_) (fun hi=>.done (.ret ⟨fun _=>⟨⟨by omega,by omega⟩,by simp only [objs]; omega,hi.1,hi.2⟩,fun _=>rfl⟩))
 obtain ⟨hi,hs⟩:=hi
 have hv:v ∈ objs w:=by rw [e]; simp
 refine Def.bind' (F34_iff v (h v hv)) (fun v3 q3=>?_)
 refine Def.bindI _ (fun hc=>Def.prev e hn (by simp at hc; omega)) (fun u hu _=>?_)
 refine Def.bindI _ (fun hc=>Def.at e) (fun v' hv' _=>?_)
 refine Def.ite (fun hc=>.done (.ret ⟨fun h=>(by cases h),fun hp=>?_⟩)) (fun hc=>.turn ⟨rfl,rise_snoc (key:=fun o:D6=>o.1) hi fun x hx=>?_,fun o ho=>?_⟩)
 ·have e3:=q3.2 (hp.snd v hv)
  subst e3
  simp at hc hu hv'
  have h1:=hu hc.1
  have h2:=hv' hc.1
  rw [h2] at hc
  have:=rise_mid (key:=fun o:D6=>o.1) e hp.ids u h1
  omega
 ·by_cases hpos:0 < pre.length
  ·simp [hpos] at hc hu hv'
   have h1:=hu hc.1
   have h2:=hv' hc.1
   rw [hx] at h1; cases h1
   rw [h2] at hc
   exact hc.2
  ·exact (last_none hpos x hx).elim
 ·rcases List.mem_append.1 ho with ho | ho
  ·exact hs o ho
  ·simp at ho; subst ho
   refine q3.1 ?_
   simp at hc; exact hc.1
end Go.Fn
namespace Go.Fn
set_option linter.unusedVariables false
open Go Go.Ab Go.Tx
theorem c1:shlO .u64 1 31=some 2147483648:=by rw [shlO,if_pos (by decide)]; rfl
theorem c2:IntKind.wrap .u64 ((2147483648:Int) - 1)=2147483647:=wrap_in (by decide)
theorem c3:IntKind.wrap .i64 ((31:Int) - 0)=31:=wrap_in (by decide)
theorem c4:IntKind.wrap .i64 ((1:Int) - 0)=1:=wrap_in (by decide)
theorem c5:IntKind.wrap .i64 ((31:Int) - 1)=30:=wrap_in (by decide)
theorem c6:shlO .u64 1 30=some 1073741824:=by rw [shlO,if_pos (by decide)]; rfl
theorem g0:guardO (if (decide ((0:Int) ≤ 0))=true then (decide ((0:Int) < 2)) else false)=some ():=by decide
theorem g1:guardO (if (decide ((0:Int) ≤ 1))=true then (decide ((1:Int) < 2)) else false)=some ():=by decide
end Go.Fn
namespace Go.Fn
set_option linter.unusedVariables false
open Go Go.Ab Go.Tx
abbrev spn (o:D6) : D2:=(thr o).2.2.2.2.2.2.2.2.2.1
structure Few (w:D7) : Prop where
 len:(objs w).length ≤ 100
 lns:∀ o ∈ objs w,(lnk o).length ≤ 1000
 dat:∀ o ∈ objs w,(dat o).length ≤ 1000000
 ok:∀ o ∈ objs w,OkO o
 spn:∀ o ∈ objs w,0 ≤ (spn o).1
theorem fit_nice {w:D7} (hF:Few w) (h:FitP w) : Nice w:={
 few:=by have:=hF.len; omega
 ids:=h.ids
 lns:=hF.lns
 lnk:=fun o ho=>by
  have hs:=h.snd o ho
  by_cases e:o.2.1=2
  ·exact (hs.inner.con e).2.rise
  ·rw [hs.alone.lnk e]; exact List.Pairwise.nil
 dat:=hF.dat }
theorem fit_niceD {w:D7} (hF:Few w) (h:FitP w) : ∀ o ∈ objs w,NiceD o:=fun o ho=>{
 lns:=(fit_nice hF h).lns o ho
 lnk:=(fit_nice hF h).lnk o ho
 dat:=(fit_nice hF h).dat o ho
 lab:=by have:=(h.snd o ho).lab.len; omega
 fit:=(h.snd o ho).lab.fit
 lab4:=by have:=(h.snd o ho).lab.len; omega }
theorem climb_of {l:List D6} {id:Int} {c:List Int} (h:Chain l id c) : ∀ (k:Nat) (acc:List Int),c.length < k → climb l k id acc=acc ++ c:=by
 induction h with
 | nil e =>
  intro k acc hk
  obtain ⟨k,rfl⟩ : ∃ m,k=m + 1:=⟨k - 1,by simp at hk; omega⟩
  rw [climb,e]; simp
 | cons e h ih =>
  intro k acc hk
  obtain ⟨k,rfl⟩ : ∃ m,k=m + 1:=⟨k - 1,by simp at hk; omega⟩
  rw [climb,e]
  simp only
  rw [ih k _ (by simp at hk; omega)]
  simp
theorem chain_len {l:List D6} {id:Int} {c:List Int} (h:Chain l id c) : c.length ≤ l.length:=by
 have:=len_sub c (l.map (·.1)) (List.nodup_cons.1 h.nodup).2 (fun x hx=>by
  obtain ⟨y,hy,e⟩:=h.mem x hx
  exact List.mem_map.2 ⟨y,hy,e⟩)
 simpa using this
def SpanP (w:D7) : Prop:=∀ t ∈ objs w,t.2.1=4 → ∀ o ∈ objs w,F122 w.2.1 (spn t) o.1 ≠ some true ∧ (o.2.1=4 → o.1 ≠ t.1 → F123 (spn t) (spn o)=some true)
theorem F92_iff (w:D7) (hn:(objs w).length ≤ 1000) (hr:Ris w) : Def (F92 w) fun r=>r=true ↔ SpanP w:=by
 unfold F92
 simp only [letJ_eq]
 refine Def.for1 (l:=objs w) (fun pre=>∀ t ∈ pre,t.2.1=4 → ∀ o ∈ objs w,F122 w.2.1 (spn t) o.1 ≠ some true ∧ (o.2.1=4 → o.1 ≠ t.1 → F123 (spn t) (spn o)=some true)) (by omega) (by simp) (fun pre t post e hi=>?_) (fun hi=>.done (.ret ⟨fun _=>hi,fun _=>rfl⟩))
 have ht:t ∈ objs w:=by rw [e]; simp
 have hgt:(objs w)[pre.length]? = some t:=by rw [e]; simp
 have more:(t.2.1=4 → ∀ o ∈ objs w,F122 w.2.1 (spn t) o.1 ≠ some true ∧ (o.2.1=4 → o.1 ≠ t.1 → F123 (spn t) (spn o)=some true)) → ∀ x ∈ pre ++ [t],x.2.1=4 → ∀ o ∈ objs w,F122 w.2.1 (spn x) o.1 ≠ some true ∧ (o.2.1=4 → o.1 ≠ x.1 → F123 (spn x) (spn o)=some true):=by
  intro hp x hx
  rcases List.mem_append.1 hx with hx | hx
  ·exact hi x hx
  ·simp only [List.mem_singleton] at hx; subst hx; exact hp
 refine Def.loop (fun i:Int=>0 ≤ i ∧ i ≤ (objs w).length ∧ (t.2.1=4 → ∀ o ∈ (objs w).take i.toNat,F122 w.2.1 (spn t) o.1 ≠ some true ∧ (o.2.1=4 → o.1 ≠ t.1 → F123 (spn t) (spn o)=some true))) (fun i:Int=>(objs w).length - i.toNat) ⟨by simp,by omega,by simp⟩ (fun i hi2=>?_)
 obtain ⟨h0,h1,h2⟩:=hi2
 refine Def.ite (fun hc=>?_) (fun hc=>.done (.turn ⟨rfl,more fun hk=>?_⟩))
 ·simp only [Bool.if_false_right,Bool.and_eq_true,decide_eq_true_eq,beq_iff_eq] at hc
  obtain ⟨hlt,hk⟩:=hc
  have hlt:i < (((objs w).length:Nat) : Int):=hlt
  refine Def.bind (Def.idx h0 hlt (fun o ho hom=>?_))
  have hne:(i != (pre.length:Int))=true ↔ o.1 ≠ t.1:=by
   rw [bne_iff_ne]
   constructor
   ·intro hne' e1
    have:=same_of hr hom ht e1
    subst this
    obtain ⟨k1,e1⟩:=List.getElem?_eq_some_iff.1 ho
    obtain ⟨k2,e2⟩:=List.getElem?_eq_some_iff.1 hgt
    by_cases hlt2:i.toNat < pre.length
    ·have:=List.pairwise_iff_getElem.1 hr _ _ k1 k2 hlt2
     rw [e1,e2] at this; omega
    ·have hlt3:pre.length < i.toNat:=by omega
     have:=List.pairwise_iff_getElem.1 hr _ _ k2 k1 hlt3
     rw [e1,e2] at this; omega
   ·intro hne' e1
    rw [e1] at ho
    simp only [Int.toNat_natCast] at ho
    rw [hgt] at ho; cases ho
    exact hne' rfl
  obtain ⟨b,hb,_⟩:=F122_def w.2.1 (spn t) o.1
  have hb' : F122 w.2.1 t.2.2.2.2.2.2.2.2.1.2.2.2.2.2.2.2.2.2.1 o.1=some b:=hb
  rw [hb',Option.bind_some]
  refine Def.bindI (fun v=>F123 (spn t) (spn o)=some v) (fun _=>⟨_,rfl,rfl⟩) (fun v6 q6 _=>?_)
  refine Def.ite (fun hc=>.done (.done (.ret ⟨fun h=>(by cases h),fun hp=>?_⟩))) (fun hc=>.turn ?_)
  ·obtain ⟨p1,p2⟩:=hp t ht hk o hom
   rw [hb] at p1
   have hbf:b=false:=by cases b with
    | false=>rfl
    | true=>exact absurd rfl p1
   subst hbf
   simp only [Bool.false_eq_true,if_false,Bool.if_false_right,Bool.and_eq_true,decide_eq_true_eq,beq_iff_eq,hne,Bool.not_eq_true'] at hc
   obtain ⟨⟨k4,kn⟩,hv⟩:=hc
   have:=q6 (by simp only [Bool.not_false,Bool.if_false_right,Bool.and_eq_true,decide_eq_true_eq,beq_iff_eq,hne,Bool.and_true,Bool.true_and]; exact ⟨k4,kn⟩)
   rw [p2 k4 kn,hv] at this
   cases this
  ·rw [wrap_i64 (by omega) (by omega)]
   refine ⟨⟨by omega,by omega,fun hk' x hx=>?_⟩,by omega⟩
   rw [show (i + 1).toNat=i.toNat + 1 by omega,List.take_add_one,ho] at hx
   rcases List.mem_append.1 hx with hx | hx
   ·exact h2 hk' x hx
   ·simp at hx; subst hx
    have hbf:b=false:=by cases b with
     | false=>rfl
     | true=>simp at hc
    subst hbf
    refine ⟨by rw [hb]; simp,fun k4 kn=>?_⟩
    have:=q6 (by simp only [Bool.not_false,Bool.if_false_right,Bool.and_eq_true,decide_eq_true_eq,beq_iff_eq,hne,Bool.and_true,Bool.true_and]; exact ⟨k4,kn⟩)
    cases v6 with
    | true=>exact this
    | false =>
     exfalso
     apply hc
     simp only [Bool.false_eq_true,if_false,Bool.if_false_right,Bool.and_eq_true,decide_eq_true_eq,beq_iff_eq,hne,Bool.not_false]
     exact ⟨⟨k4,kn⟩,trivial⟩
 ·have hend:i=(objs w).length:=by
   by_cases h:i < (((objs w).length:Nat) : Int)
   ·exfalso
    apply hc
    have h' : i < ((List.length w.2.2.2.1:Nat) : Int):=h
    simp [h',hk]
   ·omega
  have:=h2 hk
  rw [hend] at this
  simpa using this
structure WholeP (w:D7) : Prop where
 fit:FitP w
 root:(findO (objs w) w.2.2.1).2=true
 lnk:∀ o ∈ objs w,F90 w o=some true
 plc:∀ o ∈ objs w,placedB (objs w) w.2.2.1 o=true
 spn:SpanP w
theorem F33_iff {w:D7} (hF:Few w) : Def (F33 w) fun b=>b=true ↔ WholeP w:=by
 have hn:=hF.len
 unfold F33
 refine Def.bind (Def.of (F43_eq w _ (by omega)) ?_)
 refine Def.bind' (F13_iff w (by unfold big; omega) hF.ok) (fun v2 q2=>?_)
 refine Def.ite (fun hc=>.ret ⟨fun h=>(by cases h),fun hp=>?_⟩) (fun hc=>?_)
 ·have:=q2.2 hp.fit
  subst this
  simp [hp.root] at hc
 simp at hc
 obtain ⟨hc1,hroot⟩:=hc
 have hfit:=q2.1 hc1
 have hN:=fit_nice hF hfit
 have hD:=fit_niceD hF hfit
 simp only [letJ_eq]
 refine Def.for1 (l:=objs w) (fun pre=>∀ o ∈ pre,F90 w o=some true ∧ placedB (objs w) w.2.2.1 o=true) (by omega) (by simp) (fun pre v post e hi=>?_) (fun hi=>.done ?_)
 ·have hv:v ∈ objs w:=by rw [e]; simp
  obtain ⟨b,hb,_⟩:=F90_def w v (by omega) (fun o ho=>(hfit.snd o ho).lab.len) (hfit.snd v hv).lab.len (hN.lns v hv) (hN.dat v hv)
  rw [hb,Option.bind_some]
  refine Def.bindI _ (fun _=>Def.at e) (fun v6 q6 _=>?_)
  refine Def.bindI (fun x=>x=placedB (objs w) w.2.2.1 v6) (fun _=>Def.of (F91_eq w v6 (by omega) hN.lns) rfl) (fun v7 q7 _=>?_)
  refine Def.ite (fun hc=>.done (.ret ⟨fun h=>(by cases h),fun hp=>?_⟩)) (fun hc=>.turn ⟨rfl,fun o ho=>?_⟩)
  ·have h1:=hp.lnk v hv
   rw [hb] at h1; cases h1
   have e6:=q6 (by simp)
   subst e6
   have e7:=q7 (by simp)
   rw [hp.plc v6 hv] at e7
   subst e7
   simp at hc
  ·rcases List.mem_append.1 ho with ho | ho
   ·exact hi o ho
   ·simp only [List.mem_singleton] at ho
    subst ho
    simp at hc
    have e6:=q6 (by simp [hc.1])
    subst e6
    have e7:=q7 (by simp [hc.1])
    rw [hc.2] at e7
    rw [hb,hc.1]
    exact ⟨rfl,e7.symm⟩
 ·refine Def.bind' (F92_iff w (by omega) hN.ids) (fun v q=>.ret ⟨fun h=>⟨hfit,hroot,fun o ho=>(hi o ho).1,fun o ho=>(hi o ho).2,q.1 h⟩,fun hp=>q.2 hp.spn⟩)
end Go.Fn
