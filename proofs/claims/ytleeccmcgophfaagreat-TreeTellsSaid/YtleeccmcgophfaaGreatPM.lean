import Derived.Test.YtleeccmcgophfaaGreatPL
set_option linter.all false
namespace Go.Fn
set_option linter.unusedVariables false
open Go Go.Ab Go.Tx
structure Whole (l : List D6) (root : Int) : Prop where
 few : l.length ≤ 16
 ids : l.Pairwise (fun a b=>a.1 < b.1)
 quo : ∀ o ∈ l,1 ≤ quo o ∧ quo o ≤ 4096
 dat : ∀ o ∈ l,(dat o).length ≤ 300
 lns : ∀ o ∈ l,(lnk o).length ≤ 70
 own : ∀ o ∈ l,o.2.1 ≠ 2 → lnk o = [] ∧ pages o ≤ Fn.quo o
 lnk : ∀ o ∈ l,(lnk o).Pairwise (· < ·)
 has : ∀ o ∈ l,∀ x ∈ Fn.lnk o,∃ y ∈ l,y.1 = x
 uses : ∀ o ∈ l,o.2.1 = 2 → usesF l (pages o) (Fn.lnk o) ≤ Fn.quo o
 top : ∃ r ∈ l,r.1 = root
 placed : ∀ o ∈ l,placedB l root o = true
theorem len_sub : ∀ (A L : List Int),A.Nodup → (∀ x ∈ A,x ∈ L) → A.length ≤ L.length
 | [],L,_,_=>by simp
 | a :: A,L,h,hs=>by
  obtain ⟨s,t,e⟩:=List.append_of_mem (hs a (by simp))
  obtain ⟨hn,h2⟩:=List.nodup_cons.1 h
  have ih:=len_sub A (s ++ t) h2 (fun x hx=>by
   have:=hs x (by simp [hx])
   rw [e] at this
   have hne : x ≠ a:=fun e=>hn (e ▸ hx)
   simp only [List.mem_append,List.mem_cons] at this ⊢
   rcases this with h | h | h
   ·exact .inl h
   ·exact absurd h hne
   ·exact .inr h)
  rw [e]
  simp only [List.length_append,List.length_cons] at ih ⊢
  omega
theorem findO_mem : ∀ {l : List D6},l.Pairwise (fun a b=>a.1 < b.1) → ∀ o ∈ l,findO l o.1 = (o,true)
 | [],_,o,h=>by cases h
 | a :: l,hp,o,h=>by
  obtain ⟨h1,h2⟩:=List.pairwise_cons.1 hp
  rcases List.mem_cons.1 h with rfl | h
  ·simp [findO]
  ·have:=h1 o h
   have hne : (a.1 == o.1) = false:=by simp; omega
   have ih:=findO_mem h2 o h
   unfold findO at ih ⊢
   rw [List.find?_cons,hne]
   exact ih
theorem same_of {l : List D6} (hp : l.Pairwise (fun a b=>a.1 < b.1)) {x y : D6} (hx : x ∈ l) (hy : y ∈ l) (e : x.1 = y.1) : x = y:=by
 have h1:=findO_mem hp x hx
 have h2:=findO_mem hp y hy
 rw [e,h2] at h1
 exact (congrArg Prod.fst h1).symm
theorem findO_none {l : List D6} {id : Int} (h : ∀ o ∈ l,o.1 ≠ id) : findO l id = (Ty.zero t6,false):=by
 have : l.find? (fun o=>o.1 == id) = none:=List.find?_eq_none.2 fun o ho=>by simpa using h o ho
 unfold findO
 rw [this]
theorem mem_holders {l : List D6} {id d : Int} : d ∈ holders l id ↔ ∃ o ∈ l,id ∈ lnk o ∧ o.1 = d:=by
 simp only [holders,List.mem_map,List.mem_filter]
 constructor
 ·rintro ⟨o,⟨h1,h2⟩,h3⟩; exact ⟨o,h1,by simpa using h2,h3⟩
 ·rintro ⟨o,h1,h2,h3⟩; exact ⟨o,⟨h1,by simpa using h2⟩,h3⟩
theorem held {l : List D6} {root : Int} (h : Whole l root) {o : D6} (ho : o ∈ l) (hr : o.1 ≠ root) : holders l o.1 ≠ []:=by
 have:=h.placed o ho
 unfold placedB at this
 simp only [if_neg hr] at this
 intro e
 rw [e] at this
 simp at this
inductive Chain (l : List D6) : Int → List Int → Prop
 | nil {id : Int} : holders l id = [] → Chain l id []
 | cons {id d : Int} {r c : List Int} : holders l id = d :: r → Chain l d c → Chain l id (d :: c)
theorem climb_chain (l : List D6) : ∀ (k : Nat) (id : Int) (acc : List Int),climb l k id acc = [] ∨ ∃ c,Chain l id c ∧ climb l k id acc = acc ++ c ∧ c.length < k
 | 0,id,acc=>.inl rfl
 | k + 1,id,acc=>by
  rw [climb]
  cases hh : holders l id with
  | nil=>exact .inr ⟨[],.nil hh,by simp,by simp⟩
  | cons d r =>
   rcases climb_chain l k d (acc ++ [d]) with h | ⟨c,h1,h2,h3⟩
   ·exact .inl h
   ·exact .inr ⟨d :: c,.cons hh h1,by simp only [h2]; simp,by simp; omega⟩
theorem Chain.det {l : List D6} {id : Int} {c c' : List Int} (h : Chain l id c) (h' : Chain l id c') : c = c':=by
 induction h generalizing c' with
 | nil e =>
  cases h' with
  | nil=>rfl
  | cons e'=>rw [e] at e'; cases e'
 | cons e h ih =>
  cases h' with
  | nil e'=>rw [e] at e'; cases e'
  | cons e' h'=>rw [e] at e'; cases e'; rw [ih h']
theorem Chain.under {l : List D6} {id : Int} {c : List Int} (h : Chain l id c) : ∀ x ∈ c,∃ c',Chain l x c' ∧ c'.length < c.length:=by
 induction h with
 | nil=>intro x hx; cases hx
 | cons e h ih =>
  intro x hx
  rcases List.mem_cons.1 hx with rfl | hx
  ·exact ⟨_,h,by simp⟩
  ·obtain ⟨c',h1,h2⟩:=ih x hx
   exact ⟨c',h1,by simp; omega⟩
theorem Chain.nodup {l : List D6} {id : Int} {c : List Int} (h : Chain l id c) : (id :: c).Nodup:=by
 induction h with
 | nil=>simp
 | cons e h ih =>
  refine List.nodup_cons.2 ⟨fun hm=>?_,ih⟩
  have h':=Chain.cons e h
  obtain ⟨c',h1,h2⟩:=h'.under _ hm
  rw [h1.det h'] at h2
  exact Nat.lt_irrefl _ h2
theorem Chain.mem {l : List D6} {id : Int} {c : List Int} (h : Chain l id c) : ∀ x ∈ c,∃ o ∈ l,o.1 = x:=by
 induction h with
 | nil=>intro x hx; cases hx
 | cons e h ih =>
  intro x hx
  rcases List.mem_cons.1 hx with rfl | hx
  ·obtain ⟨o,ho,_,e'⟩:=mem_holders.1 (by rw [e]; exact List.mem_cons_self : x ∈ holders l _)
   exact ⟨o,ho,e'⟩
  ·exact ih x hx
theorem Chain.len {l : List D6} {o : D6} (ho : o ∈ l) {c : List Int} (h : Chain l o.1 c) : c.length + 1 ≤ l.length:=by
 have:=len_sub (o.1 :: c) (l.map (·.1)) h.nodup (by
  intro x hx
  rcases List.mem_cons.1 hx with rfl | hx
  ·exact List.mem_map.2 ⟨o,ho,rfl⟩
  ·obtain ⟨y,hy,e⟩:=h.mem x hx
   exact List.mem_map.2 ⟨y,hy,e⟩)
 simpa using this
end Go.Fn
namespace Go.Fn
set_option linter.unusedVariables false
open Go Go.Ab Go.Tx
def lowB (ks : List Int) (t : Int) : Nat:=(ks.filter fun k=>decide (k < t)).length
theorem lowB_le (ks : List Int) (t : Int) : lowB ks t ≤ ks.length:=List.length_filter_le _ _
theorem lowB_lt : ∀ {ks : List Int},ks.Pairwise (· < ·) → ∀ (t : Int) (m : Nat) (v : Int),ks[m]? = some v → (v < t ↔ m < lowB ks t)
 | [],_,t,m,v,h=>by simp at h
 | k :: ks,hp,t,m,v,h=>by
  obtain ⟨h1,h2⟩:=List.pairwise_cons.1 hp
  by_cases hk : k < t
  ·have e : lowB (k :: ks) t = lowB ks t + 1:=by simp [lowB,List.filter_cons,hk]
   rw [e]
   cases m with
   | zero=>simp at h; subst h; simp [hk]
   | succ m =>
    have:=lowB_lt h2 t m v (by simpa using h)
    rw [this]; omega
  ·have e0 : lowB (k :: ks) t = 0:=by
    have : ∀ x ∈ k :: ks,¬ x < t:=by
     intro x hx
     rcases List.mem_cons.1 hx with rfl | hx
     ·exact hk
     ·have:=h1 x hx; omega
    unfold lowB
    rw [List.filter_eq_nil_iff.2 (by intro x hx; simpa using this x hx)]
    rfl
   rw [e0]
   have hv : v ∈ k :: ks:=List.mem_of_getElem? h
   constructor
   ·intro hv'
    rcases List.mem_cons.1 hv with rfl | hx
    ·exact absurd hv' hk
    ·have:=h1 v hx; omega
   ·intro h; omega
theorem lowB_mem {ks : List Int} (hp : ks.Pairwise (· < ·)) {t v : Int} (h : ks[lowB ks t]? = some v) : t ∈ ks ↔ v = t:=by
 constructor
 ·intro hm
  obtain ⟨m,hm⟩:=List.getElem?_of_mem hm
  have h1:=lowB_lt hp t m t hm
  have h2:=lowB_lt hp t _ v h
  have h3 : ¬ v < t:=fun hc=>by have:=h2.1 hc; omega
  have h4 : ¬ m < lowB ks t:=fun hc=>by have:=h1.2 hc; omega
  by_cases he : m = lowB ks t
  ·rw [he,h] at hm; exact Option.some.inj hm
  ·exfalso
   have hlt : lowB ks t < m:=by omega
   obtain ⟨q1,q2⟩:=List.getElem?_eq_some_iff.1 h
   obtain ⟨r1,r2⟩:=List.getElem?_eq_some_iff.1 hm
   have:=List.pairwise_iff_getElem.1 hp _ _ q1 r1 hlt
   omega
 ·rintro rfl; exact List.mem_of_getElem? h
theorem lowB_end {ks : List Int} (hp : ks.Pairwise (· < ·)) {t : Int} (h : ks.length ≤ lowB ks t) : t ∉ ks:=by
 intro hm
 obtain ⟨m,hm⟩:=List.getElem?_of_mem hm
 have h1:=lowB_lt hp t m t hm
 obtain ⟨r1,r2⟩:=List.getElem?_eq_some_iff.1 hm
 have : t < t:=h1.2 (by omega)
 omega
end Go.Fn
namespace Go.Fn
set_option linter.unusedVariables false
open Go Go.Ab Go.Tx
abbrev thr (o : D6) : D4:=o.2.2.2.2.2.2.2.2.1
abbrev gat (o : D6) : D5:=o.2.2.2.2.2.2.2.2.2.1
abbrev big : Nat:=9223372036854775807
structure OkO (o : D6) : Prop where
 lab : o.2.2.1.length ≤ big
 lnk : (lnk o).length ≤ big
 dat : (dat o).length ≤ big
 mps : o.2.2.2.2.2.2.2.1.length ≤ big
 clr : (thr o).2.2.1.length ≤ big
 alr : (thr o).2.2.2.2.2.2.2.2.1.length ≤ big
 lbs : ∀ i,((thr o).2.2.2.2.2.2.2.2.2.2.1 i).length ≤ big
 gra : (gat o).1.length ≤ big
 gcl : (gat o).2.1.length ≤ big
 inn : o.2.2.2.2.2.2.2.2.2.2.1.length ≤ big
 out : o.2.2.2.2.2.2.2.2.2.2.2.1.length ≤ big
structure FitL (l : List D0) : Prop where
 rise : l.Pairwise (fun a b=>a.1 < b.1)
 lev : ∀ p ∈ l,0 ≤ p.2.1 ∧ p.2.1 ≤ 5 ∧ p.2.1 ≠ 2
theorem F159_def (l : List D0) (c : Int) (hl : l.length ≤ big) : Def (F159 l c) fun _=>True:=by
 unfold F159
 simp only [letJ_eq]
 refine Def.for1 (l:=l) (fun _=>True) hl trivial (fun pre v post e _=>?_) (fun _=>.done (.ret trivial))
 refine Def.ite (fun _=>Def.bind' (R:=fun _=>True) ((Def.at e).mono fun _ _=>trivial) (fun _ _=>.done (.ret trivial))) (fun _=>.turn ⟨rfl,trivial⟩)
theorem F219_def (a : Int) : Def (F219 a) fun _=>True:=by
 unfold F219
 exact Def.ite (fun _=>.ret trivial) (fun _=>.ret trivial)
theorem F158_def (a b : Int) : Def (F158 a b) fun _=>True:=by
 unfold F158
 exact Def.bind' (F219_def _) (fun _ _=>Def.bind' (F219_def _) (fun _ _=>.ret trivial))
theorem F100_def (a b : List D0) (ha : a.length ≤ big) (hb : b.length ≤ big) : Def (F100 a b) fun _=>True:=by
 unfold F100
 simp only [letJ_eq]
 refine Def.for1 (l:=a) (fun _=>True) ha trivial (fun pre v post e _=>?_) (fun _=>.done ?_)
 ·refine Def.bind' (R:=fun _=>True) ((Def.at e).mono fun _ _=>trivial) (fun _ _=>Def.bind' (F159_def _ _ hb) (fun _ _=>Def.bind' (F158_def _ _) (fun _ _=>?_)))
  exact Def.ite (fun _=>.done (.ret trivial)) (fun _=>.turn ⟨rfl,trivial⟩)
 ·refine Def.for1 (l:=b) (fun _=>True) hb trivial (fun pre v post e _=>?_) (fun _=>.done (.ret trivial))
  refine Def.bind' (F159_def _ _ ha) (fun _ _=>Def.bind' (R:=fun _=>True) ((Def.at e).mono fun _ _=>trivial) (fun _ _=>Def.bind' (F158_def _ _) (fun _ _=>?_)))
  exact Def.ite (fun _=>.done (.ret trivial)) (fun _=>.turn ⟨rfl,trivial⟩)
end Go.Fn
namespace Go.Fn
set_option linter.unusedVariables false
open Go Go.Ab Go.Tx
theorem F217_def (l : List D0) (hl : l.length ≤ 1000) : Def (F217 l) fun r=>r.length ≤ l.length:=by
 unfold F217
 simp only [letJ_eq]
 refine Def.for2 (l:=l) (fun pre a=>a.length ≤ pre.length) (by omega) (by simp) (fun pre v post a e hi=>?_) (fun a hi=>.done (.ret hi))
 have hlt : pre.length < l.length:=by rw [e]; simp
 refine Def.bind' (R:=fun _=>True) ((Def.at e).mono fun _ _=>trivial) (fun u _=>?_)
 have h271 : ∀ n,Def (F271 n) fun _=>True:=fun n=>by
  unfold F271
  exact Def.bind' (F219_def _) (fun _ _=>Def.ite (fun _=>.ret trivial) (fun _=>Def.bind' (F219_def _) (fun _ _=>.ret trivial)))
 refine Def.bind' (h271 _) (fun _ _=>Def.bind (.ret (Def.bind (Def.app (by simp only [List.length_cons,List.length_nil]; omega) (.turn ⟨rfl,?_⟩)))))
 simp only [List.length_append,List.length_cons,List.length_nil]; omega
theorem F270_def (a b : Int) : Def (F270 a b) fun _=>True:=by
 unfold F270
 refine Def.bind' (F219_def _) (fun _ _=>Def.bind' (F219_def _) (fun _ _=>?_))
 exact Def.ite (fun _=>Def.bind' (F219_def _) (fun _ _=>.ret trivial)) (fun _=>Def.bind' (F219_def _) (fun _ _=>.ret trivial))
theorem F269_def (l : List D0) (c n : Int) (hl : l.length ≤ 1000) : Def (F269 l c n) fun r=>r.length ≤ l.length + 1:=by
 unfold F269
 simp only [letJ_eq]
 refine Def.forB (l:=l) (fun s : List D0 × Bool × Int=>s.2.2) (fun pre s=>s.1.length ≤ pre.length + (if s.2.1 = true then 1 else 0)) (by omega) rfl (by simp) (fun pre v post s e hs hi=>?_) (fun s hs hi=>?_)
 ·have hlt : pre.length < l.length:=by rw [e]; simp
  have hat : ∀ Q : D0 → Prop,Q v → Def (idxO l s.2.2) Q:=fun Q h=>by rw [hs]; exact (Def.at e).mono fun _ h'=>by rw [h']; exact h
  have step : ∀ (a : List D0) (b : Bool),a.length ≤ pre.length + (if b = true then 1 else 0) → Def (Option.bind (idxO l s.2.2) fun v9=>if (v9.1 != c) = true then Option.bind (idxO l s.2.2) fun v10=>Option.bind (some [v10]) fun v11=>Option.bind (appO 16 a v11) fun v12=>turn (v12,b,IntKind.wrap .i64 (s.2.2 + 1)) else turn (a,b,IntKind.wrap .i64 (s.2.2 + 1))) (fun r : (List D0 × Bool × Int) ⊕ List D0=>match r with | .inl s'=>s'.2.2 = IntKind.wrap .i64 ((pre.length : Int) + 1) ∧ s'.1.length ≤ (pre ++ [v]).length + (if s'.2.1 = true then 1 else 0) | .inr r=>r.length ≤ l.length + 1):=by
   intro a b ha
   have hb1 : (if b = true then 1 else 0) ≤ 1:=by split <;> omega
   refine Def.bind (hat _ (Def.ite (fun _=>Def.bind (hat _ (Def.bind (.ret (Def.bind (Def.app (by simp only [List.length_cons,List.length_nil]; omega) (.turn ⟨by rw [hs],?_⟩)))))) ) (fun _=>.turn ⟨by rw [hs],?_⟩)))
   ·simp only [List.length_append,List.length_cons,List.length_nil]; omega
   ·simp only [List.length_append,List.length_cons,List.length_nil]; omega
  refine Def.bindI (fun _=>True) (fun _=>hat _ trivial) (fun v6 _ _=>?_)
  refine Def.ite (fun hc=>?_) (fun hc=>(step _ _ hi).mono fun r hr=>by cases r <;> exact hr)
  have hf : s.2.1 = false:=by
   cases hq : s.2.1 with
   | false=>rfl
   | true=>rw [hq] at hc; simp at hc
  rw [hf] at hi
  refine Def.bind (.ret (Def.bind (Def.app (by simp only [List.length_cons,List.length_nil]; simp at hi; omega) ((step _ _ ?_).mono fun r hr=>by cases r <;> exact hr))))
  simp only [List.length_append,List.length_cons,List.length_nil]
  simp at hi ⊢; omega
 ·refine .done (Def.ite (fun hc=>?_) (fun hc=>.ret ?_))
  ·have hf : s.2.1 = false:=by simpa using hc
   rw [hf] at hi
   simp at hi
   refine Def.bind (.ret (Def.bind (Def.app (by simp only [List.length_cons,List.length_nil]; omega) (.ret ?_))))
   simp only [List.length_append,List.length_cons,List.length_nil]; omega
  ·have hb1 : (if s.2.1 = true then 1 else 0) ≤ 1:=by split <;> omega
   omega
theorem F216_def (a : List D0) (ha : a.length ≤ 100) : Def (F216 a []) fun r=>r.length ≤ 2 * a.length:=by
 unfold F216
 simp only [letJ_eq]
 refine Def.for2 (l:=a) (fun pre s=>s.length ≤ a.length + pre.length) (by omega) (by simp) (fun pre v post s e hi=>?_) (fun s hi=>.done ?_)
 ·have hlt : pre.length < a.length:=by rw [e]; simp
  refine Def.bind' (R:=fun _=>True) ((Def.at e).mono fun _ _=>trivial) (fun _ _=>Def.bind' (R:=fun _=>True) ((Def.at e).mono fun _ _=>trivial) (fun _ _=>?_))
  refine Def.bind' (F159_def _ _ (by simp)) (fun _ _=>Def.bind' (F270_def _ _) (fun _ _=>Def.bind' (F269_def _ _ _ (by simp only; omega)) (fun r hr=>.turn ⟨rfl,?_⟩)))
  simp only [List.length_append,List.length_cons,List.length_nil] at hr ⊢; omega
 ·refine Def.for2 (l:=([] : List D0)) (fun pre x=>x.length ≤ 2 * a.length) (by simp) (by simp only; omega) (fun pre v post s e hi=>by cases pre <;> cases e) (fun s hi=>.done (.ret hi))
theorem F153_def (d o : List D0) (hd : d.length ≤ 100) (ho : o.length ≤ 100) : Def (F153 d o) fun _=>True:=by
 unfold F153
 refine Def.bind' (F217_def _ (by omega)) (fun r hr=>Def.bind' (F216_def _ (by omega)) (fun r' hr'=>Def.bind' (F100_def _ _ (by unfold big; omega) (by unfold big; omega)) (fun _ _=>.ret trivial)))
theorem findO_of {l : List D6} {id : Int} (h : (findO l id).2 = true) : (findO l id).1 ∈ l ∧ (findO l id).1.1 = id:=by
 unfold findO at h ⊢
 cases hf : l.find? (fun o=>o.1 == id) with
 | none=>rw [hf] at h; cases h
 | some o =>
  have:=List.find?_some hf
  exact ⟨List.mem_of_find?_eq_some hf,by simpa using this⟩
theorem F90_def (w : D7) (d : D6) (hn : (objs w).length ≤ 1000) (hs : ∀ o ∈ objs w,o.2.2.1.length ≤ 16) (hd : d.2.2.1.length ≤ 16) (hk : (lnk d).length ≤ 1000) (hdat : (dat d).length ≤ 1000000) : Def (F90 w d) fun b=>b = true → (∀ x ∈ lnk d,∃ y ∈ objs w,y.1 = x) ∧ (d.2.1 = 2 → usesF (objs w) (pages d) (lnk d) ≤ quo d):=by
 unfold F90
 simp only [letJ_eq]
 refine Def.for1 (l:=lnk d) (fun pre=>∀ x ∈ pre,∃ y ∈ objs w,y.1 = x) (by omega) (by simp) (fun pre v post e hi=>?_) (fun hi=>.done ?_)
 ·refine Def.bind (Def.of (F43_eq w v hn) ?_)
  refine Def.bindI (fun _=>True) (fun hc=>F153_def _ _ (by omega) ?_) (fun v5 _ _=>?_)
  ·have:=hs _ (findO_of (by simpa using hc)).1; omega
  ·refine Def.ite (fun _=>.done (.ret (fun h=>by cases h))) (fun hc=>.turn ⟨rfl,fun x hx=>?_⟩)
   rcases List.mem_append.1 hx with hx | hx
   ·exact hi x hx
   ·simp only [List.mem_singleton] at hx
    subst hx
    simp at hc
    exact ⟨_,findO_of hc.1⟩
 ·refine Def.bindI (fun v=>v = usesF (objs w) (pages d) (lnk d)) (fun _=>Def.of (F36_eq w d hn hdat hk) rfl) (fun v2 q2 _=>.ret (fun hb=>⟨hi,fun e=>?_⟩))
  have q:=q2 (by simp [e])
  simp [e] at hb
  rw [← q]; exact hb
theorem F231_def (a b c : Int) : Def (F231 a b c) fun _=>True:=by
 unfold F231 F277
 refine Def.bind' (R:=fun _=>True) (Def.bind (Def.shr (by decide) fun _=>Def.bind (Def.shr (by decide) fun _=>Def.bind (Def.shr (by decide) fun _=>.ret trivial)))) (fun _ _=>Def.bind (Def.shr (by decide) fun _=>.ret trivial))
theorem F185_def (a b : Int) : Def (F185 a b) fun _=>True:=by
 unfold F185
 simp only [letJ_eq]
 refine Def.bind (Def.shr (by decide) fun v2=>?_)
 refine Def.loop (fun s : Int × Int × Int=>0 ≤ s.2.2 ∧ s.2.2 ≤ 8) (fun s=>8 - s.2.2.toNat) ⟨by simp,by simp⟩ (fun s hi=>?_)
 obtain ⟨h1,h2⟩:=hi
 refine Def.ite (fun hc=>?_) (fun hc=>.done (Def.bind (Def.shl (by decide) fun _=>.ret trivial)))
 have hc : s.2.2 < 8:=by simpa using hc
 have hw : IntKind.wrap .u64 (s.2.2 + 1) = s.2.2 + 1:=wrap_in (by simp [inR]; omega)
 refine Def.bind (Def.rem (by decide) fun v6=>Def.ite (fun _=>?_) (fun _=>?_))
 ·refine Def.bind' (F231_def _ _ _) (fun _ _=>.turn ?_)
  simp only [hw]
  exact ⟨⟨by omega,by omega⟩,by omega⟩
 ·refine Def.bind' (F231_def _ _ _) (fun _ _=>.turn ?_)
  simp only [hw]
  exact ⟨⟨by omega,by omega⟩,by omega⟩
theorem F122_def (a : Int) (s : D2) (b : Int) : Def (F122 a s b) fun _=>True:=by
 unfold F122
 exact Def.bind' (F185_def _ _) (fun _ _=>.ret trivial)
end Go.Fn
namespace Go.Fn
set_option linter.unusedVariables false
open Go Go.Ab Go.Tx
theorem shr_half {i j : Nat} (hn : i + j ≤ 4611686018427387904) : shrO .u64 (IntKind.wrap .u64 (IntKind.wrap .i64 ((i : Int) + j))) 1 = some (((i + j) / 2 : Nat) : Int):=by
 rw [wrap_i64 (x:=(i : Int) + j) (by omega) (by omega)]
 have e : IntKind.wrap .u64 ((i : Int) + j) = (i : Int) + j:=wrap_in (by simp [inR]; omega)
 rw [e,shrO,if_pos (by decide)]
 have e2 : ((i : Int) + j).fdiv (2 ^ (min (1 : Int).toNat (IntKind.bits .u64))) = (((i + j) / 2 : Nat) : Int):=by
  rw [show min (1 : Int).toNat (IntKind.bits .u64) = 1 from by decide,Int.fdiv_eq_ediv_of_nonneg _ (by decide)]
  simp
 rw [e2]
section
variable {ρ : Type}
theorem Def.search {n m : Nat} (hm : m ≤ n) (hn : n ≤ 1000000) {B E : Int × Int → Option ((Int × Int) ⊕ ρ)} {Q : ρ → Prop}
  (hb : ∀ i j : Nat,i < j → j ≤ n → i ≤ m → m ≤ j → Def (B ((i : Int),(j : Int))) fun r=>match r with | .inl s=>(s = ((((i + j) / 2 : Nat) : Int) + 1,(j : Int)) ∧ (i + j) / 2 < m) ∨ (s = ((i : Int),(((i + j) / 2 : Nat) : Int)) ∧ m ≤ (i + j) / 2) | .inr r=>Q r)
  (he : Def (E ((m : Int),(m : Int))) fun r=>match r with | .inl _=>False | .inr r=>Q r) :
  Def (whileO (fun s=>if decide (s.1 < s.2) = true then B s else E s) ((0 : Int),(n : Int))) Q:=by
 refine Def.loop (fun s : Int × Int=>∃ i j : Nat,s = ((i : Int),(j : Int)) ∧ i ≤ m ∧ m ≤ j ∧ j ≤ n) (fun s=>(s.2 - s.1).toNat) ⟨0,n,rfl,by omega,hm,by omega⟩ (fun s hi=>?_)
 obtain ⟨i,j,rfl,h1,h2,h3⟩:=hi
 refine Def.ite (fun hc=>?_) (fun hc=>?_)
 ·have hlt : i < j:=by simpa using hc
  refine (hb i j hlt h3 h1 h2).mono fun r hr=>?_
  cases r with
  | inr r=>exact hr
  | inl s =>
   rcases hr with ⟨rfl,h⟩ | ⟨rfl,h⟩
   ·exact ⟨⟨(i + j) / 2 + 1,j,by simp,by omega,by omega,by omega⟩,by simp only; omega⟩
   ·exact ⟨⟨i,(i + j) / 2,rfl,by omega,by omega,by omega⟩,by simp only; omega⟩
 ·have hge : ¬ i < j:=by simpa using hc
  have e1 : i = m:=by omega
  have e2 : j = m:=by omega
  subst e1; subst e2
  refine he.mono fun r hr=>?_
  cases r with
  | inl s=>exact hr.elim
  | inr r=>exact hr
end
theorem F203_eq (a b : Int) : F203 a b = some (if a < b then -1 else if b < a then 1 else 0):=by
 unfold F203 F204
 simp only [Option.bind_some,letJ_eq,bne_self_eq_false,Bool.false_eq_true,if_false]
 by_cases h1 : a < b
 ·simp [h1]
 ·by_cases h2 : b < a
  ·simp [h1,h2]
  ·simp [h1,h2]
theorem F134_eq (a b : Int) : F134 a b = some (decide (a < b)):=by
 unfold F134 F204
 simp
theorem F70_eq (l : List Int) (t : Int) (hl : l.length ≤ 1000000) (hp : l.Pairwise (· < ·)) : F70 l t = some ((lowB l t : Int),decide (t ∈ l)):=by
 refine Def.eq ?_
 unfold F70
 simp only [letJ_eq]
 refine Def.search (n:=l.length) (m:=lowB l t) (lowB_le l t) hl (fun i j hij hj h1 h2=>?_) (.done ?_)
 ·simp only
  rw [shr_half (by omega)]
  have hk : (i + j) / 2 < l.length:=by omega
  have ew : IntKind.wrap .i64 (((i + j) / 2 : Nat) : Int) = (((i + j) / 2 : Nat) : Int):=wrap_i64 (by omega) (by omega)
  have ew2 : IntKind.wrap .i64 ((((i + j) / 2 : Nat) : Int) + 1) = (((i + j) / 2 : Nat) : Int) + 1:=wrap_i64 (by omega) (by omega)
  rw [Option.bind_some]
  simp only [ew,ew2]
  refine Def.bind (Def.idx (by omega) (by omega) (fun v hv _=>?_))
  simp only [Int.toNat_natCast] at hv
  have hlow:=lowB_lt hp t _ v hv
  rw [F134_eq,Option.bind_some]
  refine Def.ite (fun hc=>.turn (.inl ⟨rfl,?_⟩)) (fun hc=>.turn (.inr ⟨rfl,?_⟩))
  ·exact hlow.1 (by simpa using hc)
  ·have : ¬ v < t:=by simpa using hc
   exact Nat.le_of_not_lt fun h=>this (hlow.2 h)
 ·simp only [F135,bne_self_eq_false]
  by_cases hlt : lowB l t < l.length
  ·have hg:=List.getElem?_eq_getElem hlt
   have hm:=lowB_mem hp hg
   have h1 : idxO l (lowB l t : Int) = some l[lowB l t]:=by rw [idxO_nat,hg]
   have hd : decide (((lowB l t : Nat) : Int) < ((l.length : Nat) : Int)) = true:=by simpa using hlt
   simp only [hd,h1,Bool.and_true,Bool.true_and,if_true,Option.bind_some]
   by_cases he : l[lowB l t] = t
   ·simp [he,hm.2 he,Def]
   ·have : t ∉ l:=fun h=>he (hm.1 h)
    simp [he,this,Def]
  ·have hd : decide (((lowB l t : Nat) : Int) < ((l.length : Nat) : Int)) = false:=by simpa using hlt
   have : t ∉ l:=lowB_end hp (by omega)
   simp only [hd,Bool.false_and,Bool.false_eq_true,if_false,Option.bind_some]
   exact ⟨_,rfl,by simp [this]⟩
abbrev keys (l : List D6) : List Int:=l.map (·.1)
theorem keys_rise {l : List D6} (h : l.Pairwise (fun a b=>a.1 < b.1)) : (keys l).Pairwise (· < ·):=by
 rw [List.pairwise_map]; exact h
theorem F69_eq (w : D7) (id : Int) (hl : (objs w).length ≤ 1000000) (hp : (objs w).Pairwise (fun a b=>a.1 < b.1)) : F69 w id = some (findO (objs w) id):=by
 refine Def.eq ?_
 unfold F69 F132
 rw [Option.bind_some]
 have e0 : ((sett9_1_1 (sett9_0_1 (Ty.zero t9 : D9) w.2.2.2.1) ()) : D8).1 = objs w:=rfl
 simp only [letJ_eq,e0]
 have hk:=keys_rise hp
 have hlen : (keys (objs w)).length = (objs w).length:=by simp [keys]
 have hge : ∀ (k : Nat) (v : D6),(objs w)[k]? = some v → (keys (objs w))[k]? = some v.1:=fun k v h=>by simp [keys,h]
 refine Def.search (n:=(objs w).length) (m:=lowB (keys (objs w)) id) (by rw [← hlen]; exact lowB_le _ _) hl (fun i j hij hj h1 h2=>?_) (.done ?_)
 ·simp only
  rw [shr_half (by omega)]
  have ew : IntKind.wrap .i64 (((i + j) / 2 : Nat) : Int) = (((i + j) / 2 : Nat) : Int):=wrap_i64 (by omega) (by omega)
  have ew2 : IntKind.wrap .i64 ((((i + j) / 2 : Nat) : Int) + 1) = (((i + j) / 2 : Nat) : Int) + 1:=wrap_i64 (by omega) (by omega)
  rw [Option.bind_some]
  simp only [ew,ew2]
  refine Def.bind (Def.idx (by omega) (by show _ < (((objs w).length : Nat) : Int); omega) (fun v hv _=>?_))
  simp only [Int.toNat_natCast] at hv
  have hlow:=lowB_lt hk id _ v.1 (hge _ _ hv)
  rw [F145,Option.bind_some,F203_eq,Option.bind_some]
  refine Def.ite (fun hc=>.turn (.inl ⟨rfl,?_⟩)) (fun hc=>.turn (.inr ⟨rfl,?_⟩))
  ·refine hlow.1 ?_
   by_cases h : v.1 < id
   ·exact h
   ·by_cases h' : id < v.1 <;> simp [h,h'] at hc
  ·have : ¬ v.1 < id:=fun h=>by simp [h] at hc
   exact Nat.le_of_not_lt fun h=>this (hlow.2 h)
 ·by_cases hlt : lowB (keys (objs w)) id < (objs w).length
  ·have hg:=List.getElem?_eq_getElem hlt
   have hm:=lowB_mem hk (hge _ _ hg)
   have h1 : idxO (objs w) (lowB (keys (objs w)) id : Int) = some (objs w)[lowB (keys (objs w)) id]:=by rw [idxO_nat,hg]
   have hd : decide (((lowB (keys (objs w)) id : Nat) : Int) < (((objs w).length : Nat) : Int)) = true:=by simpa using hlt
   generalize ho : (objs w)[lowB (keys (objs w)) id] = o at h1 hm
   have hin : o ∈ objs w:=by rw [← ho]; exact List.getElem_mem hlt
   simp only [hd,h1,Bool.and_true,if_true,Option.bind_some,F145,F203_eq]
   by_cases he : o.1 = id
   ·subst he
    refine ⟨_,by simp only [Int.lt_irrefl,if_false]; rfl,?_⟩
    exact (findO_mem hp o hin).symm
   ·have hno : ∀ x ∈ objs w,x.1 ≠ id:=fun x hx e=>he (hm.1 (List.mem_map.2 ⟨x,hx,e⟩))
    refine ⟨_,?_,rfl⟩
    rw [findO_none hno]
    have : ¬ ((if o.1 < id then (-1 : Int) else if id < o.1 then 1 else 0) == 0) = true:=by
     by_cases h1 : o.1 < id
     ·simp [h1]
     ·by_cases h2 : id < o.1
      ·simp [h1,h2]
      ·omega
    rw [if_pos (by simpa using this)]
  ·have hd : decide (((lowB (keys (objs w)) id : Nat) : Int) < (((objs w).length : Nat) : Int)) = false:=by simpa using hlt
   have hno : ∀ x ∈ objs w,x.1 ≠ id:=fun x hx e=>lowB_end hk (by rw [hlen]; omega) (List.mem_map.2 ⟨x,hx,e⟩)
   simp only [hd,Bool.false_and,Bool.false_eq_true,if_false,Option.bind_some]
   exact ⟨_,rfl,(findO_none hno).symm⟩
theorem F68_eq (o : D6) (h : (dat o).length ≤ 1000000) : F68 o = some (pages o):=by
 unfold F68
 have h' : (o.2.2.2.2.2.2.1).length ≤ 1000000:=h
 have e2 : (((o.2.2.2.2.2.2.1).length : Nat) : Int).tdiv 16 = ((o.2.2.2.2.2.2.1).length : Int) / 16:=Int.tdiv_eq_ediv_of_nonneg (by omega)
 have e3 : (((o.2.2.2.2.2.2.1).length : Nat) : Int).tmod 16 = ((o.2.2.2.2.2.2.1).length : Int) % 16:=Int.tmod_eq_emod_of_nonneg (by omega)
 rw [quoO,if_pos (by decide),e2,Option.bind_some,remO,if_pos (by decide),e3,Option.bind_some]
 simp only [letJ_eq]
 rw [wrap_i64 (x:=((o.2.2.2.2.2.2.1).length : Int) / 16) (by omega) (by omega),wrap_i64 (x:=((o.2.2.2.2.2.2.1).length : Int) / 16 + 1) (by omega) (by omega)]
 unfold pages
 split
 ·rename_i hc
  have hc : ((o.2.2.2.2.2.2.1).length : Int) % 16 > 0:=by simpa using hc
  rw [wrap_i64 (by omega) (by omega)]
  simp only [dat,Option.some.injEq]; omega
 ·rename_i hc
  have hc : ¬ ((o.2.2.2.2.2.2.1).length : Int) % 16 > 0:=by simpa using hc
  simp only [dat,Option.some.injEq]; omega
theorem F35_eq (w : D7) (o : D6) (hl : (objs w).length ≤ 1000000) (hp : (objs w).Pairwise (fun a b=>a.1 < b.1)) (hd : (dat o).length ≤ 1000000) (hk : (lnk o).length ≤ 1000) : F35 w o = some (usesF (objs w) (pages o) (lnk o)):=by
 refine Def.eq ?_
 unfold F35
 rw [F68_eq o hd,Option.bind_some]
 simp only [letJ_eq]
 have e0 : ((sett11_0_4 (Ty.zero t11 : D11) w) : D11).1 = w:=rfl
 refine Def.forB (l:=lnk o) (fun s : Int × Int=>s.1) (fun pre s=>s.2 = usesF (objs w) (pages o) pre) (by omega) rfl rfl (fun pre v post s e hs hi=>?_) (fun s hs hi=>.done (.ret hi))
 rw [hs]
 refine Def.bind' (Def.at e) (fun u hu=>?_)
 subst hu
 refine Def.bind (Def.of (F69_eq w u hl hp) (.turn ⟨rfl,?_⟩))
 rw [hi]
 simp only [usesF,List.foldl_append,List.foldl_cons,List.foldl_nil]
theorem F37_eq (w : D7) (o : D6) (hl : (objs w).length ≤ 1000000) (hp : (objs w).Pairwise (fun a b=>a.1 < b.1)) (hd : (dat o).length ≤ 1000000) (hk : (lnk o).length ≤ 1000) : F37 w o = some (IntKind.wrap .i64 (quo o - usesF (objs w) (pages o) (lnk o))):=by
 unfold F37
 rw [F35_eq w o hl hp hd hk,Option.bind_some]
theorem F104_eq (w : D7) (id : Int) (hl : (objs w).length ≤ 1000) (hk : ∀ o ∈ objs w,(lnk o).length ≤ 1000 ∧ (lnk o).Pairwise (· < ·)) : F104 (sett11_0_4 (Ty.zero t11 : D11) w) id = some (match holders (objs w) id with | []=>(0,false) | d :: _=>(d,true)):=by
 refine Def.eq ?_
 unfold F104
 simp only [letJ_eq]
 refine Def.for1 (l:=objs w) (fun pre=>holders pre id = []) (by omega) rfl (fun pre v post e hi=>?_) (fun hi=>.done (.ret (by rw [hi])))
 have hv : v ∈ objs w:=by rw [e]; simp
 rw [F70_eq (lnk v) id (by have:=(hk v hv).1; omega) (hk v hv).2,Option.bind_some]
 by_cases hm : id ∈ lnk v
 ·simp only [hm,decide_true,if_true]
  refine .done (.ret ?_)
  have e1 : holders (v :: post) id = v.1 :: holders post id:=by
   have : (lnk v).contains id = true:=by simpa using hm
   simp only [holders,List.filter_cons,this,if_true,List.map_cons]
  have e2 : holders (objs w) id = v.1 :: holders post id:=by rw [e,holders_app,hi,e1]; rfl
  show (v.1,true) = _
  rw [e2]
 ·simp only [hm,decide_false,Bool.false_eq_true,if_false]
  refine .turn ⟨rfl,?_⟩
  rw [holders_app,hi]
  have : (lnk v).contains id = false:=by simpa using hm
  simp only [holders,List.filter_cons,this,List.filter_nil,List.map_nil,List.append_nil]
  simp
theorem F41_eq (w : D7) (id : Int) (hl : (objs w).length ≤ 1000) (hk : ∀ o ∈ objs w,(lnk o).length ≤ 1000 ∧ (lnk o).Pairwise (· < ·)) {c : List Int} (hc : Chain (objs w) id c) (hcl : c.length ≤ (objs w).length) : F41 w id = some c:=by
 refine Def.eq ?_
 unfold F41
 rw [F104_eq w id hl hk,Option.bind_some]
 simp only [letJ_eq]
 refine Def.loop (fun s : List Int × Int × Bool=>∃ r,c = s.1 ++ r ∧ match r with | []=>s.2.2 = false | d :: r=>s.2 = (d,true) ∧ Chain (objs w) d r) (fun s=>c.length - s.1.length) ⟨c,by simp,?_⟩ (fun s hi=>?_)
 ·cases hc with
  | nil e'=>rw [e']
  | cons e' h=>exact ⟨by rw [e'],h⟩
 ·obtain ⟨r,e,hr⟩:=hi
  cases r with
  | nil =>
   simp only at hr
   rw [hr]
   simp only [List.append_nil] at e
   exact .done (.ret e.symm)
  | cons d r =>
   obtain ⟨e2,hch⟩:=hr
   obtain ⟨a,b⟩:=s
   simp only at e e2
   subst e2
   have hlen : a.length + (r.length + 1) = c.length:=by rw [e]; simp
   simp only [if_true]
   refine Def.ite (fun hg=>?_) (fun hg=>?_)
   ·have hg : ((a.length : Nat) : Int) > (((objs w).length : Nat) : Int):=by simpa using hg
    omega
   ·refine Def.bind (.ret (Def.bind (Def.app (by simp only [List.length_cons,List.length_nil]; omega) ?_)))
    rw [F104_eq w d hl hk,Option.bind_some]
    refine .turn ⟨⟨r,by rw [e]; simp,?_⟩,by simp only [List.length_append,List.length_cons,List.length_nil]; omega⟩
    cases hch with
    | nil e'=>rw [e']
    | cons e' h=>exact ⟨by rw [e'],h⟩
end Go.Fn
namespace Go.Fn
set_option linter.unusedVariables false
open Go Go.Ab Go.Tx
theorem okO_of {o : D6} (h : wfT t6 o) : OkO o:=by
 obtain ⟨_,_,h1,_,_,h2,h3,h4,h5,h6,h7,h8,_⟩:=h
 obtain ⟨_,_,c1,_,_,_,_,_,c2,_,c3,_⟩:=h5
 obtain ⟨g1,g2,_⟩:=h6
 exact ⟨h1.1,h2.1,h3.1,h4.1,c1.1,c2.1,fun i=>(c3 i).1,g1.1,g2.1,h7.1,h8.1⟩
theorem ok_of {w : D7} (h : wfT t7 w) : (objs w).length ≤ big ∧ ∀ o ∈ objs w,OkO o:=by
 obtain ⟨_,_,_,h,_⟩:=h
 exact ⟨h.1,fun o ho=>okO_of (h.2 o ho)⟩
end Go.Fn
namespace Go.Fn
set_option linter.unusedVariables false
open Go Go.Ab Go.Tx
def raiseN (n : Int) : Int:=if n = 0 then 5 else n
def raiseL (l : List D0) : List D0:=l.map fun p=>(p.1,raiseN p.2.1,())
theorem F301_eq {n : Int} (h0 : 0 ≤ n) (h5 : n ≤ 5) : F301 n = some n:=by
 unfold F301 F278
 simp [h0,h5]
theorem F268_eq {n : Int} (h0 : 0 ≤ n) (h5 : n ≤ 5) : F268 n = some (raiseN n):=by
 unfold F268
 rw [F301_eq h0 h5,Option.bind_some,raiseN]
 by_cases h : n = 0 <;> simp [h]
theorem F210_eq (l : List D0) (hl : l.length ≤ 1000) (hf : FitL l) : F210 l = some (raiseL l):=by
 refine Def.eq ?_
 unfold F210
 simp only [letJ_eq]
 refine Def.loop (fun s : List D0 × List D0 × List D0=>s.1 = [] ∧ ∃ pre,l = pre ++ s.2.1 ∧ s.2.2 = raiseL pre) (fun s=>s.2.1.length) ⟨rfl,[],rfl,rfl⟩ (fun s hi=>?_)
 obtain ⟨b,a,out⟩:=s
 obtain ⟨rfl,pre,e,rfl⟩:=hi
 simp only at e
 cases a with
 | nil =>
  refine Def.ite (fun hc=>?_) (fun _=>.done (.ret (by simp only [List.append_nil] at e; rw [e])))
  simp [IntKind.wrap] at hc
  exact absurd hc (by decide)
 | cons p a =>
  have hlen : pre.length + (a.length + 1) ≤ 1000:=by rw [e] at hl; simpa using hl
  obtain ⟨h0,h5,h2⟩:=hf.lev p (by rw [e]; simp)
  have hw : IntKind.wrap .i64 ((((p :: a).length : Nat) : Int) + (([] : List D0).length : Nat)) = (a.length : Int) + 1:=by
   rw [wrap_i64 (by simp only [List.length_cons,List.length_nil]; omega) (by simp only [List.length_cons,List.length_nil]; omega)]
   simp
  have hi0 : idxO (p :: a) 0 = some p:=rfl
  have hs : slcO (p :: a) 1 ((a.length : Int) + 1) = some a:=by
   rw [slcO,if_pos ⟨by omega,by omega,by simp⟩]
   simp
  have hr : raiseN p.2.1 ≠ 2:=by unfold raiseN; split <;> omega
  refine Def.ite (fun _=>?_) (fun hc=>?_)
  ·have hne : ((a.length : Int) + 1 == 0) = false:=by simp; omega
   have hpos : decide ((a.length : Int) + 1 > 0) = true:=by simp only [gt_iff_lt,decide_eq_true_eq]; omega
   have hr' : (raiseN p.2.1 != 2) = true:=by simpa using hr
   have el : (((p :: a).length : Nat) : Int) = (a.length : Int) + 1:=by simp
   have en : ((([] : List D0).length : Nat) : Int) = 0:=rfl
   simp only [hi0,hs,el,en,hne,hpos,hr',F267,F268_eq h0 h5,Option.bind_some,beq_self_eq_true,if_true,Bool.not_true,Bool.not_false,Bool.false_and,Bool.and_false,Bool.false_eq_true,if_false,Bool.and_self,Bool.and_true,Int.lt_irrefl,gt_iff_lt,decide_false]
   refine Def.bind (Def.app (by simp only [raiseL,List.length_cons,List.length_nil,List.length_map]; omega) (.turn ⟨⟨rfl,pre ++ [p],by simpa using e,?_⟩,by simp⟩))
   simp [raiseL]
  ·simp only [hw] at hc
   simp at hc
def getL (l : List D0) (c : Int) : Int:=match l.find? (fun p=>p.1 == c) with | some p=>p.2.1 | none=>2
theorem getL_mem : ∀ {l : List D0},l.Pairwise (fun a b=>a.1 < b.1) → ∀ p ∈ l,getL l p.1 = p.2.1
 | [],_,o,h=>by cases h
 | a :: l,hp,o,h=>by
  obtain ⟨h1,h2⟩:=List.pairwise_cons.1 hp
  rcases List.mem_cons.1 h with rfl | h
  ·simp [getL]
  ·have:=h1 o h
   have hne : (a.1 == o.1) = false:=by simp; omega
   have ih:=getL_mem h2 o h
   unfold getL at ih ⊢
   rw [List.find?_cons,hne]
   exact ih
theorem getL_none {l : List D0} {c : Int} (h : ∀ p ∈ l,p.1 ≠ c) : getL l c = 2:=by
 have : l.find? (fun p=>p.1 == c) = none:=List.find?_eq_none.2 fun p hp=>by simpa using h p hp
 unfold getL
 rw [this]
theorem F300_eq (p : D0) (c : Int) : F300 p c = some (if p.1 < c then -1 else if c < p.1 then 1 else 0):=by
 unfold F300
 rw [F203_eq,Option.bind_some]
theorem F209_eq (l : List D0) (c : Int) (hl : l.length ≤ 1000000) (hp : l.Pairwise (fun a b=>a.1 < b.1)) : F209 l c = some (getL l c):=by
 have hk : (l.map (·.1)).Pairwise (· < ·):=by rw [List.pairwise_map]; exact hp
 have hlen : (l.map (·.1)).length = l.length:=by simp
 have hge : ∀ (k : Nat) (v : D0),l[k]? = some v → (l.map (·.1))[k]? = some v.1:=fun k v h=>by simp [h]
 have h265 : Def (F265 l c) fun r=>Def (if r.2 = true then Option.bind (idxO l r.1) fun v=>some v.2.1 else some 2) fun r=>r = getL l c:=by
  unfold F265
  simp only [letJ_eq]
  refine Def.search (n:=l.length) (m:=lowB (l.map (·.1)) c) (by rw [← hlen]; exact lowB_le _ _) hl (fun i j hij hj h1 h2=>?_) (.done ?_)
  ·simp only
   rw [shr_half (by omega)]
   have ew : IntKind.wrap .i64 (((i + j) / 2 : Nat) : Int) = (((i + j) / 2 : Nat) : Int):=wrap_i64 (by omega) (by omega)
   have ew2 : IntKind.wrap .i64 ((((i + j) / 2 : Nat) : Int) + 1) = (((i + j) / 2 : Nat) : Int) + 1:=wrap_i64 (by omega) (by omega)
   rw [Option.bind_some]
   simp only [ew,ew2]
   refine Def.bind (Def.idx (by omega) (by omega) (fun v hv _=>?_))
   simp only [Int.toNat_natCast] at hv
   have hlow:=lowB_lt hk c _ v.1 (hge _ _ hv)
   rw [F300_eq,Option.bind_some]
   refine Def.ite (fun hc=>.turn (.inl ⟨rfl,?_⟩)) (fun hc=>.turn (.inr ⟨rfl,?_⟩))
   ·refine hlow.1 ?_
    by_cases h : v.1 < c
    ·exact h
    ·by_cases h' : c < v.1 <;> simp [h,h'] at hc
   ·have : ¬ v.1 < c:=fun h=>by simp [h] at hc
    exact Nat.le_of_not_lt fun h=>this (hlow.2 h)
  ·by_cases hlt : lowB (l.map (·.1)) c < l.length
   ·have hg:=List.getElem?_eq_getElem hlt
    have hm:=lowB_mem hk (hge _ _ hg)
    have h1 : idxO l (lowB (l.map (·.1)) c : Int) = some l[lowB (l.map (·.1)) c]:=by rw [idxO_nat,hg]
    have hd : decide (((lowB (l.map (·.1)) c : Nat) : Int) < ((l.length : Nat) : Int)) = true:=by simpa using hlt
    generalize ho : l[lowB (l.map (·.1)) c] = o at h1 hm
    have hin : o ∈ l:=by rw [← ho]; exact List.getElem_mem hlt
    simp only [hd,h1,Bool.and_true,if_true,Option.bind_some,F300_eq]
    by_cases he : o.1 = c
    ·subst he
     refine ⟨_,rfl,?_⟩
     simp only [Int.lt_irrefl,if_false]
     refine ⟨_,?_,(getL_mem hp o hin).symm⟩
     simp [h1]
    ·have hno : ∀ x ∈ l,x.1 ≠ c:=fun x hx e=>he (hm.1 (List.mem_map.2 ⟨x,hx,e⟩))
     refine ⟨_,rfl,?_⟩
     rw [getL_none hno]
     have : ¬ ((if o.1 < c then (-1 : Int) else if c < o.1 then 1 else 0) == 0) = true:=by
      by_cases h1 : o.1 < c
      ·simp [h1]
      ·by_cases h2 : c < o.1
       ·simp [h1,h2]
       ·omega
     have hx : ((if o.1 < c then (-1 : Int) else if c < o.1 then 1 else 0) == 0) = false:=by simpa only [Bool.not_eq_true] using this
     show Def (if ((if o.1 < c then (-1 : Int) else if c < o.1 then 1 else 0) == 0) = true then _ else _) _
     rw [hx]
     exact .ret rfl
   ·have hd : decide (((lowB (l.map (·.1)) c : Nat) : Int) < ((l.length : Nat) : Int)) = false:=by simpa using hlt
    have hno : ∀ x ∈ l,x.1 ≠ c:=fun x hx e=>lowB_end hk (by rw [hlen]; omega) (List.mem_map.2 ⟨x,hx,e⟩)
    simp only [hd,Bool.false_and,Bool.false_eq_true,if_false,Option.bind_some]
    exact ⟨_,rfl,.ret (getL_none hno).symm⟩
 unfold F209
 exact Def.eq (Def.bind h265)
theorem raiseL_rise {l : List D0} (h : FitL l) : (raiseL l).Pairwise (fun a b=>a.1 < b.1):=by
 unfold raiseL
 rw [List.pairwise_map]
 exact h.rise
def placeB (d o : List D0) : Bool:=d.all fun p=>decide (p.2.1 ≤ max 2 (getL (raiseL o) p.1))
theorem F146_eq (d o : List D0) (hd : d.length ≤ 1000) (ho : o.length ≤ 1000) (hf : FitL o) : F146 d o = some (placeB d o):=by
 refine Def.eq ?_
 unfold F146
 simp only [letJ_eq]
 refine Def.for1 (l:=d) (fun pre=>placeB pre o = true) (by omega) rfl (fun pre v post e hi=>?_) (fun hi=>.done (.ret hi.symm))
 rw [F210_eq o ho hf,Option.bind_some,F209_eq _ _ (by simp [raiseL]; omega) (raiseL_rise hf),Option.bind_some]
 have hm : (if decide ((2 : Int) > getL (raiseL o) v.1) = true then (2 : Int) else getL (raiseL o) v.1) = max 2 (getL (raiseL o) v.1):=by
  by_cases h : (2 : Int) > getL (raiseL o) v.1
  ·rw [if_pos (by simpa using h)]; omega
  ·rw [if_neg (by simpa using h)]; omega
 rw [hm]
 refine Def.ite (fun hc=>.done (.ret ?_)) (fun hc=>.turn ⟨rfl,?_⟩)
 ·have hc : v.2.1 > max 2 (getL (raiseL o) v.1):=by simpa using hc
  have : decide (v.2.1 ≤ max 2 (getL (raiseL o) v.1)) = false:=by simp only [decide_eq_false_iff_not]; omega
  have hp : placeB (pre ++ v :: post) o = false:=by rw [placeB,List.all_append,List.all_cons,this]; simp
  rw [e,hp]
 ·have hc : ¬ v.2.1 > max 2 (getL (raiseL o) v.1):=by simpa using hc
  unfold placeB at hi ⊢
  rw [List.all_append,hi,List.all_cons,List.all_nil,decide_eq_true (by omega)]
  rfl
end Go.Fn
namespace Go.Fn
set_option linter.unusedVariables false
open Go Go.Ab Go.Tx
abbrev Ris (w : D7) : Prop:=(objs w).Pairwise (fun a b=>a.1 < b.1)
structure Nice (w : D7) : Prop where
 few : (objs w).length ≤ 1000
 ids : Ris w
 lns : ∀ o ∈ objs w,(lnk o).length ≤ 1000
 lnk : ∀ o ∈ objs w,(Fn.lnk o).Pairwise (· < ·)
 dat : ∀ o ∈ objs w,(dat o).length ≤ 1000000
def roomF (l : List D6) (d : D6) : Int:=IntKind.wrap .i64 (quo d - usesF l (pages d) (lnk d))
structure NiceO (o : D6) : Prop where
 lns : (lnk o).length ≤ 1000
 lnk : (Fn.lnk o).Pairwise (· < ·)
 dat : (dat o).length ≤ 1000000
 lab : o.2.2.1.length ≤ 1000
 fit : FitL o.2.2.1
end Go.Fn
namespace Go.Fn
set_option linter.unusedVariables false
open Go Go.Ab Go.Tx
theorem zeroO_nice : NiceO (Ty.zero t6 : D6):=⟨by decide,List.Pairwise.nil,by decide,by decide,⟨List.Pairwise.nil,by intro p hp; cases hp⟩⟩
theorem findO_all {l : List D6} {Q : D6 → Prop} (h : ∀ o ∈ l,Q o) (h0 : Q (Ty.zero t6)) (id : Int) : Q (findO l id).1:=by
 cases hf : (findO l id).2 with
 | true=>exact h _ (findO_of hf).1
 | false =>
  have : (findO l id).1 = Ty.zero t6:=by
   unfold findO at hf ⊢
   cases hx : l.find? (fun o=>o.1 == id) with
   | none=>rfl
   | some o=>rw [hx] at hf; cases hf
  rw [this]; exact h0
def wholeK (k : Int) : Bool:=k == 2 || k == 4
theorem F39_eq (w : D7) (id : Int) (hw : Nice w) : F39 w id = some (holders (objs w) id):=by
 have hf:=hw.few
 refine Def.eq ?_
 unfold F39
 simp only [letJ_eq]
 refine Def.forB (l:=objs w) (fun s : Int × List Int=>s.1) (fun pre s=>s.2 = holders pre id) (by omega) rfl rfl (fun pre v post s e hs hi=>?_) (fun s hs hi=>.done (.ret hi))
 have hv : v ∈ objs w:=by rw [e]; simp
 rw [hs]
 refine Def.bind' (Def.at e) (fun u hu=>?_)
 subst hu
 have hn : pre.length < (objs w).length:=by rw [e]; simp
 rw [F70_eq (lnk u) id (by have:=hw.lns u hv; omega) (hw.lnk u hv),Option.bind_some]
 by_cases hm : id ∈ lnk u
 ·simp only [hm,decide_true,if_true,Option.bind_some]
  have hh:=holders_len pre id
  rw [hi]
  refine Def.bind (Def.app (by simp only [List.length_cons,List.length_nil]; omega) (.turn ⟨rfl,?_⟩))
  have : (lnk u).contains id = true:=by simpa using hm
  rw [holders_app]
  simp only [holders,List.filter_cons,this,List.filter_nil,if_true,List.map_cons,List.map_nil]
 ·simp only [hm,decide_false,Bool.false_eq_true,if_false]
  refine .turn ⟨rfl,?_⟩
  have : (lnk u).contains id = false:=by simpa using hm
  simp only [hi,holders_app]
  simp only [holders,List.filter_cons,this,List.filter_nil,List.map_nil,List.append_nil]
  simp
end Go.Fn
namespace Go.Fn
set_option linter.unusedVariables false
open Go Go.Ab Go.Tx
theorem same_refl {α : Type} {a : List α} {c : Int → α → α → Bool} (hl : a.length ≤ big) (hc : ∀ s v,c s v v = false) : (if (((List.length a : Nat) : Int) != ((List.length a : Nat) : Int)) = true then some false else
  whileO (σ:=Int) (ρ:=Bool) (fun s=>if (decide (s < ((List.length a : Nat) : Int))) = true then Option.bind (idxO a s) fun v=>Option.bind (idxO a s) fun u=>if c s v u = true then done (some false) else turn (IntKind.wrap .i64 (s + (1 : Int))) else done (some true)) (0 : Int)) = some true:=by
 refine Def.eq ?_
 refine Def.ite (fun h=>by simp at h) (fun _=>?_)
 refine Def.for1 (l:=a) (fun _=>True) hl trivial (fun pre v post e _=>?_) (fun _=>.done (.ret rfl))
 refine Def.bind' (Def.at e) (fun u hu=>?_)
 subst hu
 rw [if_neg (by rw [hc]; simp)]
 exact .turn ⟨rfl,trivial⟩
theorem F139_refl (a : List Int) (hl : a.length ≤ big) : F139 a a = some true:=by
 unfold F139
 simp only [letJ_eq]
 exact same_refl (c:=fun _ v u=>v != u) hl fun _ v=>by simp
def lv (n : Int) : Int:=if n < 0 ∨ 5 < n then 2 else n
theorem F219_eq (n : Int) : F219 n = some (lv n):=by
 unfold F219 lv
 by_cases h1 : n < 0
 ·simp [h1]
 ·by_cases h2 : 5 < n <;> simp [h1,h2]
theorem lv_in {n : Int} (h0 : 0 ≤ n) (h5 : n ≤ 5) : lv n = n:=by
 unfold lv
 rw [if_neg (by omega)]
theorem F217_eq (l : List D0) (hl : l.length ≤ 1000) (hf : FitL l) : F217 l = some (raiseL l):=by
 refine Def.eq ?_
 unfold F217
 simp only [letJ_eq]
 refine Def.for2 (l:=l) (fun pre a=>a = raiseL pre) (by omega) rfl (fun pre v post a e hi=>?_) (fun a hi=>.done (.ret hi))
 have hlt : pre.length < l.length:=by rw [e]; simp
 obtain ⟨h0,h5,_⟩:=hf.lev v (by rw [e]; simp)
 subst hi
 refine Def.bind' (Def.at e) (fun u hu=>?_)
 subst hu
 have h271 : F271 u.2.1 = some (raiseN u.2.1):=by
  unfold F271 raiseN
  rw [F219_eq,lv_in h0 h5]
  by_cases h : u.2.1 = 0 <;> simp [h]
 rw [h271,Option.bind_some,Option.bind_some]
 refine Def.bind (Def.app (by simp only [raiseL,List.length_cons,List.length_nil,List.length_map]; omega) (.turn ⟨rfl,?_⟩))
 simp [raiseL]
theorem F159_eq (l : List D0) (c : Int) (hl : l.length ≤ big) : F159 l c = some (getL l c):=by
 refine Def.eq ?_
 unfold F159
 simp only [letJ_eq]
 refine Def.for1 (l:=l) (fun pre=>∀ p ∈ pre,p.1 ≠ c) hl (by simp) (fun pre v post e hi=>?_) (fun hi=>.done (.ret (getL_none hi).symm))
 have hn : pre.find? (fun p=>p.1 == c) = none:=List.find?_eq_none.2 fun p hp=>by simpa using hi p hp
 refine Def.ite (fun hc=>?_) (fun hc=>.turn ⟨rfl,?_⟩)
 ·refine Def.bind' (Def.at e) (fun u hu=>.done (.ret ?_))
  subst hu
  unfold getL
  rw [e,List.find?_append,hn,List.find?_cons,hc]
  rfl
 ·intro p hp
  rcases List.mem_append.1 hp with hp | hp
  ·exact hi p hp
  ·simp at hp; subst hp; simpa using hc
theorem F158_eq (a b : Int) : F158 a b = some (decide (lv a ≤ lv b)):=by
 unfold F158
 rw [F219_eq,F219_eq,Option.bind_some,Option.bind_some]
def leqB (a b : List D0) : Bool:=(a.all fun p=>decide (lv p.2.1 ≤ lv (getL b p.1))) && b.all fun q=>decide (lv (getL a q.1) ≤ lv q.2.1)
theorem F100_eq (a b : List D0) (ha : a.length ≤ big) (hb : b.length ≤ big) : F100 a b = some (leqB a b):=by
 refine Def.eq ?_
 unfold F100
 simp only [letJ_eq]
 refine Def.for1 (l:=a) (fun pre=>(pre.all fun p=>decide (lv p.2.1 ≤ lv (getL b p.1))) = true) ha rfl (fun pre v post e hi=>?_) (fun hi=>.done ?_)
 ·refine Def.bind' (Def.at e) (fun u hu=>?_)
  subst hu
  rw [F159_eq _ _ hb,Option.bind_some,F158_eq,Option.bind_some]
  refine Def.ite (fun hc=>.done (.ret ?_)) (fun hc=>.turn ⟨rfl,?_⟩)
  ·have hc : decide (lv u.2.1 ≤ lv (getL b u.1)) = false:=by simpa using hc
   unfold leqB
   have : (a.all fun p=>decide (lv p.2.1 ≤ lv (getL b p.1))) = false:=by rw [e,List.all_append,List.all_cons,hc]; simp
   rw [this]; rfl
  ·rw [List.all_append,hi]
   simpa using hc
 ·refine Def.for1 (l:=b) (fun pre=>(pre.all fun q=>decide (lv (getL a q.1) ≤ lv q.2.1)) = true) hb rfl (fun pre v post e hi2=>?_) (fun hi2=>.done (.ret ?_))
  ·rw [F159_eq _ _ ha,Option.bind_some]
   refine Def.bind' (Def.at e) (fun u hu=>?_)
   subst hu
   rw [F158_eq,Option.bind_some]
   refine Def.ite (fun hc=>.done (.ret ?_)) (fun hc=>.turn ⟨rfl,?_⟩)
   ·have hc : decide (lv (getL a u.1) ≤ lv u.2.1) = false:=by simpa using hc
    unfold leqB
    have : (b.all fun q=>decide (lv (getL a q.1) ≤ lv q.2.1)) = false:=by rw [e,List.all_append,List.all_cons,hc]; simp
    rw [this]; simp
   ·rw [List.all_append,hi2]
    simpa using hc
  ·unfold leqB
   rw [hi,hi2]; rfl
def withL (l : List D0) (c n : Int) : List D0:=l.filter (fun p=>decide (p.1 < c)) ++ (if n = 2 then [] else [(c,n,())]) ++ l.filter (fun p=>decide (c < p.1))
theorem F269_eq (l : List D0) (c n : Int) (hl : l.length ≤ 1000) (hr : l.Pairwise (fun a b=>a.1 < b.1)) : F269 l c n = some (withL l c n):=by
 refine Def.eq ?_
 unfold F269
 simp only [letJ_eq]
 let I : List D0 → List D0 × Bool × Int → Prop:=fun pre s =>
  s.1.length ≤ pre.length + 1 ∧ ((s.2.1 = false ∧ n ≠ 2 ∧ s.1 = pre.filter (fun p=>decide (p.1 < c)) ∧ ∀ p ∈ pre,p.1 ≤ c) ∨ (s.2.1 = true ∧ s.1 = withL pre c n ∧ (n = 2 ∨ ∃ p ∈ pre,c < p.1)))
 refine Def.forB (l:=l) (fun s : List D0 × Bool × Int=>s.2.2) I (by omega) rfl ⟨by simp,?_⟩ (fun pre v post s e hs hi=>?_) (fun s hs hi=>?_)
 ·by_cases h : n = 2
  ·exact .inr ⟨by simpa using h,by simp [withL,h],.inl h⟩
  ·exact .inl ⟨by simpa using h,h,rfl,by simp⟩
 ·obtain ⟨hlen,hi⟩:=hi
  have hlt : pre.length < l.length:=by rw [e]; simp
  have hv : idxO l s.2.2 = some v:=by rw [hs,idxO_nat,e]; simp
  have hpv : ∀ p ∈ pre,p.1 < v.1:=fun p hp=>by
   rw [e,List.pairwise_append] at hr
   exact hr.2.2 p hp v (by simp)
  have hfl : ∀ q : D0 → Bool,(pre.filter q).length ≤ pre.length:=fun q=>List.length_filter_le _ _
  rw [hv]
  simp only [Option.bind_some]
  rcases hi with ⟨h1,hn,h2,h3⟩ | ⟨h1,h2,h3⟩
  ·rw [h1]
   simp only [Bool.not_false,Bool.and_self,if_true,Option.bind_some]
   refine Def.ite (fun hc=>?_) (fun hc=>?_)
   ·have hc : c < v.1:=by simpa using hc
    have hpc : pre.filter (fun p=>decide (c < p.1)) = []:=List.filter_eq_nil_iff.2 fun p hp=>by have:=h3 p hp; simp; omega
    refine Def.bind (Def.app (by simp only [List.length_cons,List.length_nil]; omega) ?_)
    rw [if_pos (by simp; omega)]
    refine Def.bind (Def.app (by simp only [List.length_append,List.length_cons,List.length_nil]; have:=hfl (fun p=>decide (p.1 < c)); omega) (.turn ⟨by rw [hs],?_,.inr ⟨rfl,?_,.inr ⟨v,by simp,hc⟩⟩⟩))
    ·rw [h2]; have:=hfl (fun p=>decide (p.1 < c)); simp only [List.length_append,List.length_cons,List.length_nil]; omega
    ·have hv1 : ¬ v.1 < c:=by omega
     simp [withL,hn,h2,List.filter_append,hpc,hc,hv1]
   ·have hc : ¬ c < v.1:=by simpa using hc
    by_cases hvc : v.1 = c
    ·rw [if_neg (by simp [hvc])]
     refine .turn ⟨by rw [hs],by simp; omega,.inl ⟨rfl,hn,?_,?_⟩⟩
     ·have : ¬ v.1 < c:=by omega
      simp [h2,List.filter_append,this]
     ·intro p hp
      rcases List.mem_append.1 hp with hp | hp
      ·exact h3 p hp
      ·simp at hp; subst hp; omega
    ·rw [if_pos (by simpa using hvc)]
     refine Def.bind (Def.app (by simp only [List.length_cons,List.length_nil]; omega) (.turn ⟨by rw [hs],by simp; omega,.inl ⟨rfl,hn,?_,?_⟩⟩))
     ·have : v.1 < c:=by omega
      simp [h2,List.filter_append,this]
     ·intro p hp
      rcases List.mem_append.1 hp with hp | hp
      ·exact h3 p hp
      ·simp at hp; subst hp; omega
  ·rw [h1]
   simp only [Bool.not_true,Bool.false_and,Bool.false_eq_true,if_false,Option.bind_some]
   by_cases hvc : v.1 = c
   ·rw [if_neg (by simp [hvc])]
    refine .turn ⟨by rw [hs],by simp; omega,.inr ⟨rfl,?_,?_⟩⟩
    ·have a1 : ¬ v.1 < c:=by omega
     have a2 : ¬ c < v.1:=by omega
     simp [h2,withL,List.filter_append,a1,a2]
    ·rcases h3 with h | ⟨p,hp,h⟩
     ·exact .inl h
     ·exact .inr ⟨p,by simp [hp],h⟩
   ·rw [if_pos (by simpa using hvc)]
    refine Def.bind (Def.app (by simp only [List.length_cons,List.length_nil]; omega) (.turn ⟨by rw [hs],?_,.inr ⟨rfl,?_,?_⟩⟩))
    ·simp only [List.length_append,List.length_cons,List.length_nil]; omega
    ·by_cases h : v.1 < c
     ·have a2 : ¬ c < v.1:=by omega
      have hpc : pre.filter (fun p=>decide (c < p.1)) = []:=List.filter_eq_nil_iff.2 fun p hp=>by have:=hpv p hp; simp; omega
      have hn : n = 2:=by
       rcases h3 with h' | ⟨p,hp,h'⟩
       ·exact h'
       ·have:=hpv p hp; omega
      simp [h2,withL,List.filter_append,h,a2,hn,hpc]
     ·have a2 : c < v.1:=by omega
      simp [h2,withL,List.filter_append,h,a2]
    ·rcases h3 with h | ⟨p,hp,h⟩
     ·exact .inl h
     ·exact .inr ⟨p,by simp [hp],h⟩
 ·obtain ⟨hlen,hi⟩:=hi
  rcases hi with ⟨h1,hn,h2,h3⟩ | ⟨h1,h2,h3⟩
  ·have hpc : l.filter (fun p=>decide (c < p.1)) = []:=List.filter_eq_nil_iff.2 fun p hp=>by have:=h3 p hp; simp; omega
   rw [h1]
   simp only [Bool.not_false,if_true,Option.bind_some]
   refine .done (Def.bind (Def.app (by simp only [List.length_cons,List.length_nil]; omega) (.ret ?_)))
   simp [withL,hn,h2,hpc]
  ·rw [h1]
   simp only [Bool.not_true,Bool.false_eq_true,if_false]
   exact .done (.ret h2)
end Go.Fn
namespace Go.Fn
set_option linter.unusedVariables false
open Go Go.Ab Go.Tx
theorem F270_eq (a b : Int) : F270 a b = some (if lv b < lv a then lv a else lv b):=by
 unfold F270
 simp only [F219_eq,Option.bind_some]
 by_cases h : lv b < lv a <;> simp [h]
def joinL (a : List D0) : List D0:=a.filter fun p=>decide (2 < p.2.1)
theorem F216_eq (a : List D0) (ha : a.length ≤ 500) (hr : a.Pairwise (fun a b=>a.1 < b.1)) (hl : ∀ p ∈ a,0 ≤ p.2.1 ∧ p.2.1 ≤ 5) : F216 a [] = some (joinL a):=by
 refine Def.eq ?_
 unfold F216
 simp only [letJ_eq]
 refine Def.for2 (l:=a) (fun pre s=>s = joinL pre ++ a.drop pre.length) (by omega) (by simp [joinL]) (fun pre v post s e hi=>?_) (fun s hi=>.done ?_)
 ·have hlt : pre.length < a.length:=by rw [e]; simp
  have hd : a.drop pre.length = v :: post:=by rw [e]; simp
  rw [hd] at hi
  have hr':=hr
  rw [e,List.pairwise_append,List.pairwise_cons] at hr'
  obtain ⟨_,⟨r2,r3⟩,r4⟩:=hr'
  have hsub : s.Sublist a:=by
   rw [hi,e]
   exact List.Sublist.append List.filter_sublist (List.Sublist.refl _)
  have hsl : s.length ≤ a.length:=hsub.length_le
  refine Def.bind' (Def.at e) (fun u hu=>?_)
  subst hu
  refine Def.bind' (Def.at e) (fun u' hu'=>?_)
  subst hu'
  obtain ⟨l0,l5⟩:=hl u' (by rw [e]; simp)
  rw [F159_eq [] _ (by simp),Option.bind_some,F270_eq,Option.bind_some,F269_eq _ _ _ (by omega) (hr.sublist hsub),Option.bind_some]
  refine .turn ⟨rfl,?_⟩
  have g2 : getL [] u'.1 = 2:=rfl
  rw [g2,lv_in l0 l5,show lv 2 = 2 from rfl]
  have f1 : s.filter (fun p=>decide (p.1 < u'.1)) = joinL pre:=by
   rw [hi,List.filter_append,List.filter_cons,if_neg (by simp),List.filter_eq_self.2,List.filter_eq_nil_iff.2]
   ·simp
   ·intro p hp; have:=r2 p hp; simp; omega
   ·intro p hp; have:=r4 p (List.mem_filter.1 hp).1 u' (by simp); simpa using this
  have f2 : s.filter (fun p=>decide (u'.1 < p.1)) = post:=by
   rw [hi,List.filter_append,List.filter_cons,if_neg (by simp),List.filter_eq_nil_iff.2,List.filter_eq_self.2]
   ·simp
   ·intro p hp; have:=r2 p hp; simpa using this
   ·intro p hp; have:=r4 p (List.mem_filter.1 hp).1 u' (by simp); simp; omega
  have f3 : a.drop (pre ++ [u']).length = post:=by rw [e]; simp
  simp only
  rw [withL,f1,f2,f3]
  have f4 : joinL (pre ++ [u']) = joinL pre ++ if 2 < u'.2.1 then [u'] else []:=by
   unfold joinL
   rw [List.filter_append]
   by_cases h : 2 < u'.2.1 <;> simp [h]
  rw [f4]
  by_cases h : 2 < u'.2.1
  ·have h' : ¬ u'.2.1 = 2:=by omega
   simp [h,h']
  ·simp [h]
 ·rw [List.drop_length,List.append_nil] at hi
  refine Def.for2 (l:=([] : List D0)) (fun pre x=>x = joinL a) (by simp) hi (fun pre v post s e hi=>by cases pre <;> cases e) (fun s hi=>.done (.ret hi))
theorem getL_join {a : List D0} (hr : a.Pairwise (fun a b=>a.1 < b.1)) (c : Int) : getL (joinL a) c = max 2 (getL a c):=by
 have hj : (joinL a).Pairwise (fun a b=>a.1 < b.1):=hr.filter _
 by_cases h : ∃ p ∈ a,p.1 = c
 ·obtain ⟨p,hp,rfl⟩:=h
  rw [getL_mem hr p hp]
  by_cases h2 : 2 < p.2.1
  ·rw [getL_mem hj p (List.mem_filter.2 ⟨hp,by simpa using h2⟩)]; omega
  ·rw [getL_none fun q hq e=>?_]
   ·omega
   ·have hq':=List.mem_filter.1 hq
    have:=getL_mem hr q hq'.1
    rw [e,getL_mem hr p hp] at this
    have h3 : 2 < q.2.1:=by simpa using hq'.2
    omega
 ·rw [getL_none (l:=a) fun p hp e=>h ⟨p,hp,e⟩,getL_none (l:=joinL a) fun p hp e=>h ⟨p,(List.mem_filter.1 hp).1,e⟩]
  rfl
theorem getL_in {l : List D0} (hr : FitL l) (c : Int) : 0 ≤ getL l c ∧ getL l c ≤ 5:=by
 by_cases h : ∃ p ∈ l,p.1 = c
 ·obtain ⟨p,hp,rfl⟩:=h
  rw [getL_mem hr.rise p hp]; have:=hr.lev p hp; omega
 ·rw [getL_none fun p hp e=>h ⟨p,hp,e⟩]; omega
theorem raise_in {o : List D0} (h : FitL o) : ∀ p ∈ raiseL o,0 ≤ p.2.1 ∧ p.2.1 ≤ 5:=by
 intro p hp
 obtain ⟨q,hq,rfl⟩:=List.mem_map.1 hp
 have:=h.lev q hq
 simp only [raiseN]
 split <;> omega
theorem place_eq {d o : List D0} (hd : FitL d) (ho : FitL o) : leqB d (joinL (raiseL o)) = placeB d o:=by
 have hr:=raiseL_rise ho
 have hg : ∀ c,2 ≤ max 2 (getL (raiseL o) c) ∧ max 2 (getL (raiseL o) c) ≤ 5:=fun c=>by
  have : getL (raiseL o) c ≤ 5:=by
   by_cases h : ∃ p ∈ raiseL o,p.1 = c
   ·obtain ⟨p,hp,rfl⟩:=h
    rw [getL_mem hr p hp]; exact (raise_in ho p hp).2
   ·rw [getL_none fun p hp e=>h ⟨p,hp,e⟩]; omega
  omega
 have h1 : (d.all fun p=>decide (lv p.2.1 ≤ lv (getL (joinL (raiseL o)) p.1))) = placeB d o:=by
  unfold placeB
  rw [Bool.eq_iff_iff,List.all_eq_true,List.all_eq_true]
  refine forall_congr' fun p=>forall_congr' fun hp=>?_
  have:=hd.lev p hp
  have h2:=hg p.1
  rw [getL_join hr,lv_in (by omega) (by omega),lv_in (by omega) h2.2]
 unfold leqB
 rw [h1]
 cases hp : placeB d o with
 | false=>rfl
 | true =>
  rw [Bool.true_and,List.all_eq_true]
  intro q hq
  have hq':=List.mem_filter.1 hq
  have q2 : 2 < q.2.1:=by simpa using hq'.2
  have q5:=(raise_in ho q hq'.1).2
  have hdi:=getL_in hd q.1
  rw [lv_in hdi.1 hdi.2,lv_in (by omega) q5,decide_eq_true_eq]
  by_cases h : ∃ p ∈ d,p.1 = q.1
  ·obtain ⟨p,hpd,e⟩:=h
   have:=List.all_eq_true.1 hp p hpd
   rw [e,getL_mem hr q hq'.1] at this
   rw [← e,getL_mem hd.rise p hpd]
   have:=of_decide_eq_true this
   omega
  ·rw [getL_none fun p hp e=>h ⟨p,hp,e⟩]; omega
theorem F153_eq (d o : List D0) (hd : d.length ≤ 400) (ho : o.length ≤ 400) (fd : FitL d) (fo : FitL o) : F153 d o = some (placeB d o):=by
 unfold F153
 have hj : (joinL (raiseL o)).length ≤ 400:=Nat.le_trans (List.length_filter_le _ _) (by simp [raiseL]; omega)
 rw [F217_eq o (by omega) fo,Option.bind_some,F216_eq _ (by simp [raiseL]; omega) (raiseL_rise fo) (raise_in fo),Option.bind_some,F100_eq _ _ (by unfold big; omega) (by unfold big; omega),Option.bind_some,place_eq fd fo]
end Go.Fn
namespace Go.Fn
set_option linter.unusedVariables false
open Go Go.Ab Go.Tx
structure NiceD (o : D6) : Prop extends NiceO o where
 lab4 : o.2.2.1.length ≤ 400
theorem zeroO_niceD : NiceD (Ty.zero t6 : D6):={ zeroO_nice with lab4:=by decide }
theorem F38_eq (w : D7) (d : D6) (hw : Nice w) (hd : NiceO d) : F38 w d = some (roomF (objs w) d):=by
 unfold F38
 rw [F36_eq w d hw.few hd.dat hd.lns,Option.bind_some]
 rfl
theorem F119_eq (k : Int) : F119 k = some (wholeK k):=by
 unfold F119 wholeK
 cases h : (k == 2) <;> simp
end Go.Fn
namespace Go.Fn
set_option linter.unusedVariables false
open Go Go.Ab Go.Tx
theorem eqT_iff : ∀ (t : Ty) (e : t.den → t.den → Bool),eqT t = some e → ∀ x y,e x y = true ↔ x = y:=by
 intro t
 induction t with
 | int k=>intro e h x y; cases h; simp
 | bool=>intro e h x y; cases h; simp
 | unit=>intro e h x y; cases h; simp
 | prod a b iha ihb =>
  intro e h x y
  simp only [eqT] at h
  cases ha : eqT a with
  | none=>rw [ha] at h; cases h
  | some f =>
   cases hb : eqT b with
   | none=>rw [ha,hb] at h; cases h
   | some g =>
    rw [ha,hb] at h; cases h
    simp only [Bool.and_eq_true,iha f ha,ihb g hb]
    exact ⟨fun h=>Prod.ext h.1 h.2,fun h=>by rw [h]; exact ⟨rfl,rfl⟩⟩
 | st a ih =>
  intro e h x y
  simp only [eqT] at h
  cases ha : eqT a with
  | none=>rw [ha] at h; cases h
  | some f=>rw [ha] at h; cases h; exact ih f ha x y
 | arr n t ih =>
  intro e h x y
  simp only [eqT] at h
  cases ha : eqT t with
  | none=>rw [ha] at h; cases h
  | some f =>
   rw [ha] at h; cases h
   simp only [List.all_eq_true,ih f ha]
   exact ⟨fun h=>funext fun i=>h i (List.mem_finRange i),fun h i _=>by rw [h]⟩
 | _=>intro e h; cases h
theorem eqK_iff {t : Ty} (h : (eqT t).isSome = true) (x y : t.den) : eqK t x y = true ↔ x = y:=by
 unfold eqK
 cases he : eqT t with
 | none=>rw [he] at h; cases h
 | some e=>exact eqT_iff t e he x y
theorem same_iff {α : Type} {a b : List α} {c : Int → α → α → Bool} (hl : b.length ≤ big) (hc : ∀ s v u,c s v u = false ↔ v = u) : Def (if (((List.length a : Nat) : Int) != ((List.length b : Nat) : Int)) = true then some false else
  whileO (σ:=Int) (ρ:=Bool) (fun s=>if (decide (s < ((List.length a : Nat) : Int))) = true then Option.bind (idxO a s) fun v=>Option.bind (idxO b s) fun u=>if c s v u = true then done (some false) else turn (IntKind.wrap .i64 (s + (1 : Int))) else done (some true)) (0 : Int))
  fun r=>r = true ↔ a = b:=by
 refine Def.ite (fun h=>.ret ⟨fun h=>(by cases h),fun e=>by rw [e] at h; simp at h⟩) (fun h=>?_)
 have hn : a.length = b.length:=by simp at h; exact_mod_cast h
 refine Def.for1 (l:=a) (fun pre=>b.take pre.length = pre) (by rw [hn]; exact hl) (by simp) (fun pre v post e hi=>?_) (fun hi=>?_)
 ·have hlt : pre.length < b.length:=by rw [← hn,e]; simp
  refine Def.bind (Def.idx (by omega) (by exact_mod_cast hlt) (fun u hu _=>?_))
  simp only [Int.toNat_natCast] at hu
  refine Def.ite (fun hc'=>.done (.ret ⟨fun h=>(by cases h),fun eab=>?_⟩)) (fun hc'=>.turn ⟨rfl,?_⟩)
  ·rw [← eab,e] at hu
   simp at hu
   have:=(hc pre.length v u).2 hu
   rw [this] at hc'; cases hc'
  ·have hvu:=(hc _ _ _).1 (by simpa using hc')
   rw [List.length_append,List.length_singleton,List.take_add_one,hi,hu,hvu]; rfl
 ·refine .done (.ret ⟨fun _=>?_,fun _=>rfl⟩)
  rw [hn,List.take_length] at hi
  exact hi.symm
theorem F128_iff (a b : List D0) (hl : b.length ≤ big) : Def (F128 a b) fun r=>r = true ↔ a = b:=by
 unfold F128
 simp only [letJ_eq]
 exact same_iff (c:=fun _ v u=>!(eqK (.prod (.int .u64) (.prod (.int .i64) .unit)) v u)) hl fun _ v u=>by
  rw [Bool.not_eq_eq_eq_not,Bool.not_false]; exact eqK_iff (by rfl) v u
theorem F139_iff (a b : List Int) (hl : b.length ≤ big) : Def (F139 a b) fun r=>r = true ↔ a = b:=by
 unfold F139
 simp only [letJ_eq]
 exact same_iff (c:=fun _ v u=>v != u) hl fun _ v u=>by simp
theorem F140_iff (a b : List D1) (hl : b.length ≤ big) : Def (F140 a b) fun r=>r = true ↔ a = b:=by
 unfold F140
 simp only [letJ_eq]
 exact same_iff (c:=fun _ v u=>!(eqK (.prod (.int .i64) (.prod (.int .i64) (.prod (.int .u64) (.prod (.int .u64) (.prod (.int .i64) (.prod .bool .unit)))))) v u)) hl fun _ v u=>by
  rw [Bool.not_eq_eq_eq_not,Bool.not_false]; exact eqK_iff (by rfl) v u
theorem F274_eq : F274 = F128:=rfl
theorem F225_eq : F225 = F139:=rfl
theorem F275_eq : F275 = F140:=rfl
theorem F27_eq : F27 = F139:=rfl
def ownedL (l : List D0) : List Int:=(l.filter fun p=>p.2.1 == 0).map (·.1)
theorem ownedL_snoc (l : List D0) (v : D0) : ownedL (l ++ [v]) = ownedL l ++ if v.2.1 == 0 then [v.1] else []:=by
 unfold ownedL
 rw [List.filter_append,List.map_append]
 cases h : (v.2.1 == 0) <;> simp [List.filter_cons,h]
theorem ownedL_len (l : List D0) : (ownedL l).length ≤ l.length:=by
 unfold ownedL
 rw [List.length_map]; exact List.length_filter_le _ _
theorem F96_eq (l : List D0) (hl : l.length ≤ 1000000) : F96 l = some (ownedL l):=by
 refine Def.eq ?_
 unfold F96
 simp only [letJ_eq]
 refine Def.for2 (l:=l) (fun pre a=>a = ownedL pre) (by omega) rfl (fun pre v post a e hi=>?_) (fun a hi=>.done (.ret hi))
 have hlt : pre.length < l.length:=by rw [e]; simp
 have:=ownedL_len pre
 subst hi
 refine Def.ite (fun h=>?_) (fun h=>.turn ⟨rfl,?_⟩)
 ·refine Def.bind' (Def.at e) (fun u hu=>Def.bind (.ret (Def.bind (Def.app (by simp only [List.length_cons,List.length_nil]; omega) (.turn ⟨rfl,?_⟩)))))
  subst hu
  rw [ownedL_snoc,if_pos h]
 ·rw [ownedL_snoc,if_neg h,List.append_nil]
theorem F188_eq (l : List D0) (hl : l.length ≤ 1000000) : F188 l = some (ownedL l):=by
 refine Def.eq ?_
 unfold F188
 simp only [letJ_eq]
 refine Def.for2 (l:=l) (fun pre a=>a = ownedL pre) (by omega) rfl (fun pre v post a e hi=>?_) (fun a hi=>.done (.ret hi))
 have hlt : pre.length < l.length:=by rw [e]; simp
 have:=ownedL_len pre
 subst hi
 refine Def.ite (fun h=>?_) (fun h=>.turn ⟨rfl,?_⟩)
 ·refine Def.bind (.ret (Def.bind (Def.app (by simp only [List.length_cons,List.length_nil]; omega) (.turn ⟨rfl,?_⟩))))
  rw [ownedL_snoc,if_pos h]
 ·rw [ownedL_snoc,if_neg h,List.append_nil]
theorem F224_eq (a b : List D0) : F224 a b = F128 a b:=by unfold F224; rw [F274_eq]; cases F128 a b <;> rfl
theorem F226_eq (a b : List D1) : F226 a b = F140 a b:=by unfold F226; rw [F275_eq]; cases F140 a b <;> rfl
theorem Def.times' {ρ : Type} {n : Nat} {A : Int → Option (Int ⊕ ρ)} {E : Int → Option (Int ⊕ ρ)} {Q : ρ → Prop} (I : Nat → Prop) (hn : n ≤ 1000000) (h0 : I 0)
  (hb : ∀ i : Nat,i < n → I i → Def (A i) fun r=>match r with | .inl s=>s = IntKind.wrap .i64 ((i : Int) + 1) ∧ I (i + 1) | .inr r=>Q r)
  (he : I n → Def (E (n : Int)) fun r=>match r with | .inl _=>False | .inr r=>Q r) :
  Def (whileO (fun s=>if decide (s < (n : Int)) = true then A s else E s) (0 : Int)) Q:=by
 refine Def.loop (fun i : Int=>0 ≤ i ∧ i ≤ n ∧ I i.toNat) (fun i : Int=>n - i.toNat) ⟨by simp,by omega,h0⟩ (fun i hi=>?_)
 obtain ⟨h1,h2,h3⟩:=hi
 obtain ⟨k,rfl⟩ : ∃ k : Nat,i = k:=⟨i.toNat,by omega⟩
 simp only [Int.toNat_natCast] at h3
 refine Def.ite (fun hc=>?_) (fun hc=>?_)
 ·have hlt : k < n:=by simpa using hc
  refine (hb k hlt h3).mono fun r hr=>?_
  cases r with
  | inr r=>exact hr
  | inl s =>
   obtain ⟨hr,hk⟩:=hr
   rw [wrap_i64 (by omega) (by omega)] at hr
   subst hr
   exact ⟨⟨by omega,by omega,by rw [show ((k : Int) + 1).toNat = k + 1 by omega]; exact hk⟩,by omega⟩
 ·have e : k = n:=by simp at hc; omega
  subst e
  refine (he h3).mono fun r hr=>?_
  cases r with
  | inl s=>exact hr.elim
  | inr r=>exact hr
theorem aidx4 {α : Type} {f : Fin 4 → α} {i : Nat} (h : i < 4) : aidxO f (i : Int) = some (f ⟨i,h⟩):=by
 rw [aidxO,dif_pos ⟨by omega,by simpa using h⟩]
 simp
theorem guard4' {i : Nat} (h : i < 4) : guardO (if (decide ((0 : Int) ≤ (i : Int))) = true then (decide ((i : Int) < (4 : Int))) else false) = some ():=by
 have h4 : (i : Int) < 4:=by omega
 have h0 : (0 : Int) ≤ i:=by omega
 rw [guardO,if_pos (by simp [h4,h0])]
theorem D4_ext {a b : D4} (h1 : a.1 = b.1) (h2 : a.2.1 = b.2.1) (h3 : a.2.2.1 = b.2.2.1) (h4 : a.2.2.2.1 = b.2.2.2.1) (h5 : a.2.2.2.2.1 = b.2.2.2.2.1) (h6 : a.2.2.2.2.2.1 = b.2.2.2.2.2.1) (h7 : a.2.2.2.2.2.2.1 = b.2.2.2.2.2.2.1) (h8 : a.2.2.2.2.2.2.2.1 = b.2.2.2.2.2.2.2.1) (h9 : a.2.2.2.2.2.2.2.2.1 = b.2.2.2.2.2.2.2.2.1) (h10 : a.2.2.2.2.2.2.2.2.2.1 = b.2.2.2.2.2.2.2.2.2.1) (h11 : a.2.2.2.2.2.2.2.2.2.2.1 = b.2.2.2.2.2.2.2.2.2.2.1) : a = b:=by
 obtain ⟨_,_,_,_,_,_,_,_,_,_,_,_⟩:=a
 obtain ⟨_,_,_,_,_,_,_,_,_,_,_,_⟩:=b
 simp only at h1 h2 h3 h4 h5 h6 h7 h8 h9 h10 h11
 subst h1; subst h2; subst h3; subst h4; subst h5; subst h6; subst h7; subst h8; subst h9; subst h10; subst h11
 rfl
theorem F141_iff (a b : D4) (h1 : b.2.2.1.length ≤ big) (h2 : b.2.2.2.2.2.2.2.2.1.length ≤ big) (h3 : ∀ i,(b.2.2.2.2.2.2.2.2.2.2.1 i).length ≤ big) : Def (F141 a b) fun r=>r = true ↔ a = b:=by
 unfold F141
 simp only [letJ_eq,letV_eq]
 refine Def.times' (n:=4) (fun k=>∀ i : Fin 4,i.1 < k → a.2.2.2.2.2.2.2.2.2.2.1 i = b.2.2.2.2.2.2.2.2.2.2.1 i) (by omega) (fun i h=>absurd h (by omega)) (fun i h4 hi=>?_) (fun hi=>?_)
 ·rw [guard4' h4,aidx4 h4,aidx4 h4]
  simp only [Option.bind_some]
  refine Def.bind' (F128_iff _ _ (h3 _)) (fun v hv=>?_)
  refine Def.ite (fun hc=>.done (.ret ⟨fun h=>(by cases h),fun e=>?_⟩)) (fun hc=>.turn ⟨rfl,fun k hk=>?_⟩)
  ·have hv' : v = true:=hv.2 (by rw [e])
   rw [hv'] at hc; simp at hc
  ·have hv' : v = true:=by simpa using hc
   by_cases hki : k.1 < i
   ·exact hi k hki
   ·have : k = ⟨i,h4⟩:=Fin.ext (by simp only; omega)
    rw [this]; exact hv.1 hv'
 ·have hl : a.2.2.2.2.2.2.2.2.2.2.1 = b.2.2.2.2.2.2.2.2.2.2.1:=funext fun i=>hi i i.2
  have k1:=eqK_iff (t:=.arr 16 (.int .u64)) (by rfl) a.1 b.1
  have k2:=eqK_iff (t:=.prod (.int .u64) (.prod (.int .u64) .unit)) (by rfl) a.2.2.2.1 b.2.2.2.1
  have k3:=eqK_iff (t:=.prod t2 (.prod (.int .u64) (.prod (.int .u64) (.prod .bool .unit)))) (by rfl) a.2.2.2.2.2.2.2.1 b.2.2.2.2.2.2.2.1
  have k4:=eqK_iff (t:=.prod (.int .u64) (.prod (.int .u64) .unit)) (by rfl) a.2.2.2.2.2.2.2.2.2.1 b.2.2.2.2.2.2.2.2.2.1
  refine Def.done (Def.bindI _ (fun _=>F128_iff _ _ h1) (fun v2 q2 _=>Def.bindI _ (fun _=>F139_iff _ _ h2) (fun v4 q4 _=>.ret ⟨fun hr=>?_,fun e=>?_⟩)))
  ·simp only [Bool.if_false_right,Bool.and_eq_true,decide_eq_true_eq,Bool.and_true,beq_iff_eq,k1,k2,k3,k4] at hr q2 q4
   obtain ⟨⟨⟨⟨⟨⟨⟨⟨⟨r1,r2⟩,r3⟩,r4⟩,r5⟩,r6⟩,r7⟩,r8⟩,r9⟩,r10⟩:=hr
   exact D4_ext r1 r2 ((q2 ⟨r1,r2⟩).1 r3) r4 r5 r6 r7 r8 ((q4 ⟨⟨⟨⟨⟨⟨⟨r1,r2⟩,r3⟩,r4⟩,r5⟩,r6⟩,r7⟩,r8⟩).1 r9) r10 hl
  ·subst e
   simp only [Bool.if_false_right,Bool.and_eq_true,decide_eq_true_eq,Bool.and_true,beq_iff_eq,k1,k2,k3,k4] at q2 q4 ⊢
   have e2:=(q2 ⟨trivial,trivial⟩).2 trivial
   subst e2
   have e4:=(q4 (by simp)).2 trivial
   subst e4
   simp
end Go.Fn
namespace Go.Fn
set_option linter.unusedVariables false
open Go Go.Ab Go.Tx
theorem D5_ext {a b : D5} (h1 : a.1 = b.1) (h2 : a.2.1 = b.2.1) (h3 : a.2.2.1 = b.2.2.1) (h4 : a.2.2.2.1 = b.2.2.2.1) (h5 : a.2.2.2.2.1 = b.2.2.2.2.1) : a = b:=by
 obtain ⟨_,_,_,_,_,_⟩:=a
 obtain ⟨_,_,_,_,_,_⟩:=b
 simp only at h1 h2 h3 h4 h5
 subst h1; subst h2; subst h3; subst h4; subst h5
 rfl
theorem D6_ext {a b : D6} (h1 : a.1 = b.1) (h2 : a.2.1 = b.2.1) (h3 : a.2.2.1 = b.2.2.1) (h4 : a.2.2.2.1 = b.2.2.2.1) (h5 : a.2.2.2.2.1 = b.2.2.2.2.1) (h6 : a.2.2.2.2.2.1 = b.2.2.2.2.2.1) (h7 : a.2.2.2.2.2.2.1 = b.2.2.2.2.2.2.1) (h8 : a.2.2.2.2.2.2.2.1 = b.2.2.2.2.2.2.2.1) (h9 : a.2.2.2.2.2.2.2.2.1 = b.2.2.2.2.2.2.2.2.1) (h10 : a.2.2.2.2.2.2.2.2.2.1 = b.2.2.2.2.2.2.2.2.2.1) (h11 : a.2.2.2.2.2.2.2.2.2.2.1 = b.2.2.2.2.2.2.2.2.2.2.1) (h12 : a.2.2.2.2.2.2.2.2.2.2.2.1 = b.2.2.2.2.2.2.2.2.2.2.2.1) : a = b:=by
 obtain ⟨_,_,_,_,_,_,_,_,_,_,_,_,_⟩:=a
 obtain ⟨_,_,_,_,_,_,_,_,_,_,_,_,_⟩:=b
 simp only at h1 h2 h3 h4 h5 h6 h7 h8 h9 h10 h11 h12
 subst h1; subst h2; subst h3; subst h4; subst h5; subst h6; subst h7; subst h8; subst h9; subst h10; subst h11; subst h12
 rfl
theorem F142_iff (a b : D5) (h1 : b.1.length ≤ big) (h2 : b.2.1.length ≤ big) : Def (F142 a b) fun r=>r = true ↔ a = b:=by
 have k2:=eqK_iff (t:=.prod (.int .u64) (.prod (.int .u64) .unit)) (by rfl) a.2.2.1 b.2.2.1
 unfold F142
 simp only [letV_eq]
 refine Def.bind' (F128_iff _ _ h1) (fun v q=>Def.bindI _ (fun _=>F128_iff _ _ h2) (fun v2 q2 _=>.ret ⟨fun hr=>?_,fun e=>?_⟩))
 ·simp only [Bool.if_false_right,Bool.and_eq_true,decide_eq_true_eq,Bool.and_true,beq_iff_eq,k2] at hr q2
  obtain ⟨⟨⟨⟨r1,r2⟩,r3⟩,r4⟩,r5⟩:=hr
  exact D5_ext (q.1 r1) ((q2 r1).1 r2) r3 r4 r5
 ·subst e
  have e1:=q.2 rfl
  subst e1
  have e2:=(q2 rfl).2 rfl
  subst e2
  simp [k2]
theorem F228_iff (a b : D5) (h1 : b.1.length ≤ big) (h2 : b.2.1.length ≤ big) : Def (F228 a b) fun r=>r = true ↔ a = b:=by
 have : F228 a b = F142 a b:=by unfold F228 F142; simp only [F224_eq]
 rw [this]
 exact F142_iff a b h1 h2
theorem F227_iff (a b : D4) (h1 : b.2.2.1.length ≤ big) (h2 : b.2.2.2.2.2.2.2.2.1.length ≤ big) (h3 : ∀ i,(b.2.2.2.2.2.2.2.2.2.2.1 i).length ≤ big) : Def (F227 a b) fun r=>r = true ↔ a = b:=by
 unfold F227
 simp only [letJ_eq,letV_eq,F224_eq,F225_eq]
 refine Def.times' (n:=4) (fun k=>∀ i : Fin 4,i.1 < k → a.2.2.2.2.2.2.2.2.2.2.1 i = b.2.2.2.2.2.2.2.2.2.2.1 i) (by omega) (fun i h=>absurd h (by omega)) (fun i h4 hi=>?_) (fun hi=>?_)
 ·rw [guard4' h4,aidx4 h4,aidx4 h4]
  simp only [Option.bind_some]
  refine Def.bind' (F128_iff _ _ (h3 _)) (fun v hv=>?_)
  refine Def.ite (fun hc=>.done (.ret ⟨fun h=>(by cases h),fun e=>?_⟩)) (fun hc=>.turn ⟨rfl,fun k hk=>?_⟩)
  ·have hv' : v = true:=hv.2 (by rw [e])
   rw [hv'] at hc; simp at hc
  ·have hv' : v = true:=by simpa using hc
   by_cases hki : k.1 < i
   ·exact hi k hki
   ·have : k = ⟨i,h4⟩:=Fin.ext (by simp only; omega)
    rw [this]; exact hv.1 hv'
 ·have hl : a.2.2.2.2.2.2.2.2.2.2.1 = b.2.2.2.2.2.2.2.2.2.2.1:=funext fun i=>hi i i.2
  have k1:=eqK_iff (t:=.arr 16 (.int .u64)) (by rfl) a.1 b.1
  have k2:=eqK_iff (t:=.prod (.int .u64) (.prod (.int .u64) .unit)) (by rfl) a.2.2.2.1 b.2.2.2.1
  have k3:=eqK_iff (t:=.prod t2 (.prod (.int .u64) (.prod (.int .u64) (.prod .bool .unit)))) (by rfl) a.2.2.2.2.2.2.2.1 b.2.2.2.2.2.2.2.1
  have k4:=eqK_iff (t:=.prod (.int .u64) (.prod (.int .u64) .unit)) (by rfl) a.2.2.2.2.2.2.2.2.2.1 b.2.2.2.2.2.2.2.2.2.1
  refine Def.done (Def.bindI _ (fun _=>F128_iff _ _ h1) (fun v2 q2 _=>Def.bindI _ (fun _=>F139_iff _ _ h2) (fun v4 q4 _=>.ret ⟨fun hr=>?_,fun e=>?_⟩)))
  ·simp only [Bool.if_false_right,Bool.and_eq_true,decide_eq_true_eq,Bool.and_true,beq_iff_eq,k1,k2,k3,k4] at hr q2 q4
   obtain ⟨⟨⟨⟨⟨⟨⟨⟨⟨r1,r2⟩,r3⟩,r4⟩,r5⟩,r6⟩,r7⟩,r8⟩,r9⟩,r10⟩:=hr
   exact D4_ext r1 r2 ((q2 ⟨⟨⟨⟨⟨⟨⟨r1,r2⟩,r3⟩,r4⟩,r5⟩,r6⟩,r7⟩,r8⟩).1 r9) r3 r4 r5 r6 r7 ((q4 ⟨⟨⟨⟨⟨⟨⟨⟨r1,r2⟩,r3⟩,r4⟩,r5⟩,r6⟩,r7⟩,r8⟩,r9⟩).1 r10) r8 hl
  ·subst e
   simp only [Bool.if_false_right,Bool.and_eq_true,decide_eq_true_eq,Bool.and_true,beq_iff_eq,k1,k2,k3,k4] at q2 q4 ⊢
   have e2:=(q2 (by simp)).2 trivial
   subst e2
   have e4:=(q4 (by simp)).2 trivial
   subst e4
   simp
theorem F83_iff (a b : D6) (h : OkO b) : Def (F83 a b) fun r=>r = true ↔ a = b:=by
 unfold F83
 simp only [letV_eq]
 refine Def.bindI _ (fun _=>F128_iff _ _ h.lab) (fun v2 q2 _=>?_)
 refine Def.ite (fun hc=>.ret ⟨fun h=>(by cases h),fun e=>?_⟩) (fun hc=>?_)
 ·subst e
  have:=(q2 (by simp)).2 rfl
  subst this
  simp at hc
 ·simp at hc q2
  obtain ⟨⟨⟨⟨c1,c2⟩,c3⟩,c4⟩,c5⟩:=hc
  have c3:=(q2 c1 c2).1 c3
  refine Def.bind' (F139_iff _ _ h.lnk) (fun v4 q4=>?_)
  refine Def.bindI _ (fun _=>F139_iff _ _ h.dat) (fun v5 q5 _=>?_)
  refine Def.bindI _ (fun _=>F140_iff _ _ h.mps) (fun v6 q6 _=>?_)
  refine Def.bindI _ (fun _=>F141_iff _ _ h.clr h.alr h.lbs) (fun v7 q7 _=>?_)
  refine Def.bindI _ (fun _=>F142_iff _ _ h.gra h.gcl) (fun v8 q8 _=>?_)
  refine Def.bindI _ (fun _=>F139_iff _ _ h.inn) (fun v9 q9 _=>?_)
  refine Def.bindI _ (fun _=>F139_iff _ _ h.out) (fun v10 q10 _=>.ret ⟨fun hr=>?_,fun e=>?_⟩)
  ·simp only [Bool.if_false_right,Bool.and_eq_true,decide_eq_true_eq,Bool.and_true] at hr q5 q6 q7 q8 q9 q10
   obtain ⟨⟨⟨⟨⟨⟨r4,r5⟩,r6⟩,r7⟩,r8⟩,r9⟩,r10⟩:=hr
   exact D6_ext c1 c2 c3 c4 c5 (q4.1 r4) ((q5 r4).1 r5) ((q6 ⟨r4,r5⟩).1 r6) ((q7 ⟨⟨r4,r5⟩,r6⟩).1 r7) ((q8 ⟨⟨⟨r4,r5⟩,r6⟩,r7⟩).1 r8) ((q9 ⟨⟨⟨⟨r4,r5⟩,r6⟩,r7⟩,r8⟩).1 r9) ((q10 ⟨⟨⟨⟨⟨r4,r5⟩,r6⟩,r7⟩,r8⟩,r9⟩).1 r10)
  ·subst e
   simp only [Bool.if_false_right,Bool.and_eq_true,decide_eq_true_eq,Bool.and_true] at q5 q6 q7 q8 q9 q10 ⊢
   have e4:=q4.2 rfl
   subst e4
   have e5:=(q5 rfl).2 trivial
   subst e5
   have e6:=(q6 (by simp)).2 trivial
   subst e6
   have e7:=(q7 (by simp)).2 trivial
   subst e7
   have e8:=(q8 (by simp)).2 trivial
   subst e8
   have e9:=(q9 (by simp)).2 trivial
   subst e9
   have e10:=(q10 (by simp)).2 trivial
   subst e10
   simp
theorem F181_iff (a b : D6) (h : OkO b) : Def (F181 a b) fun r=>r = true ↔ a = b:=by
 unfold F181
 simp only [letV_eq,F224_eq,F225_eq,F226_eq]
 refine Def.bindI _ (fun _=>F128_iff _ _ h.lab) (fun v3 q3 _=>?_)
 refine Def.bind' (F139_iff _ _ h.lnk) (fun v4 q4=>?_)
 refine Def.bindI _ (fun _=>F139_iff _ _ h.dat) (fun v5 q5 _=>?_)
 refine Def.bindI _ (fun _=>F139_iff _ _ h.inn) (fun v6 q6 _=>?_)
 refine Def.bindI _ (fun _=>F139_iff _ _ h.out) (fun v7 q7 _=>?_)
 refine Def.bindI _ (fun _=>F140_iff _ _ h.mps) (fun v8 q8 _=>?_)
 refine Def.bindI _ (fun _=>F227_iff _ _ h.clr h.alr h.lbs) (fun v9 q9 _=>?_)
 refine Def.bindI _ (fun _=>F228_iff _ _ h.gra h.gcl) (fun v10 q10 _=>.ret ⟨fun hr=>?_,fun e=>?_⟩)
 ·simp only [Bool.if_false_right,Bool.and_eq_true,decide_eq_true_eq,Bool.and_true,beq_iff_eq] at hr q3 q5 q6 q7 q8 q9 q10
  obtain ⟨⟨⟨⟨⟨⟨⟨⟨c1,c2⟩,c4⟩,c5⟩,r3⟩,⟨⟨r4,r5⟩,r6⟩,r7⟩,r8⟩,r9⟩,r10⟩:=hr
  exact D6_ext c1 c2 ((q3 ⟨⟨⟨c1,c2⟩,c4⟩,c5⟩).1 r3) c4 c5 (q4.1 r4) ((q5 r4).1 r5) ((q8 ⟨⟨⟨⟨⟨c1,c2⟩,c4⟩,c5⟩,r3⟩,⟨⟨r4,r5⟩,r6⟩,r7⟩).1 r8) ((q9 ⟨⟨⟨⟨⟨⟨c1,c2⟩,c4⟩,c5⟩,r3⟩,⟨⟨r4,r5⟩,r6⟩,r7⟩,r8⟩).1 r9) ((q10 ⟨⟨⟨⟨⟨⟨⟨c1,c2⟩,c4⟩,c5⟩,r3⟩,⟨⟨r4,r5⟩,r6⟩,r7⟩,r8⟩,r9⟩).1 r10) ((q6 ⟨r4,r5⟩).1 r6) ((q7 ⟨⟨r4,r5⟩,r6⟩).1 r7)
 ·subst e
  simp only [Bool.if_false_right,Bool.and_eq_true,decide_eq_true_eq,Bool.and_true,beq_iff_eq] at q3 q5 q6 q7 q8 q9 q10 ⊢
  have e3:=(q3 (by simp)).2 trivial
  subst e3
  have e4:=q4.2 rfl
  subst e4
  have e5:=(q5 rfl).2 trivial
  subst e5
  have e6:=(q6 (by simp)).2 trivial
  subst e6
  have e7:=(q7 (by simp)).2 trivial
  subst e7
  have e8:=(q8 (by simp)).2 trivial
  subst e8
  have e9:=(q9 (by simp)).2 trivial
  subst e9
  have e10:=(q10 (by simp)).2 trivial
  subst e10
  simp
structure Alone (o : D6) : Prop where
 lnk : o.2.1 ≠ 2 → lnk o = []
 dat : o.2.1 ≠ 1 → dat o = []
 mps : o.2.1 ≠ 3 → o.2.2.2.2.2.2.2.1 = []
 thr : o.2.1 ≠ 4 → thr o = Ty.zero t4
 gat : o.2.1 ≠ 5 → gat o = Ty.zero t5
 inn : o.2.1 ≠ 6 → o.2.2.2.2.2.2.2.2.2.2.1 = []
 out : o.2.1 ≠ 6 → o.2.2.2.2.2.2.2.2.2.2.2.1 = []
theorem F95_iff (o : D6) (h : OkO o) : Def (F95 o) fun r=>r = true ↔ Alone o:=by
 have key : ∀ x : D6,(x = o ↔ Alone o) → Def (Option.bind (F83 x o) fun v2=>some v2) fun r=>r = true ↔ Alone o:=by
  intro x hx
  refine Def.bind' (F83_iff x o h) (fun v q=>.ret ?_)
  exact q.trans hx
 have fwd : ∀ (k : Int) (x : D6),o.2.1 = k → x = o → (k ≠ 2 → lnk x = []) → (k ≠ 1 → dat x = []) → (k ≠ 3 → x.2.2.2.2.2.2.2.1 = []) → (k ≠ 4 → thr x = Ty.zero t4) → (k ≠ 5 → gat x = Ty.zero t5) → (k ≠ 6 → x.2.2.2.2.2.2.2.2.2.2.1 = []) → (k ≠ 6 → x.2.2.2.2.2.2.2.2.2.2.2.1 = []) → Alone o:=by
  rintro k x rfl rfl h1 h2 h3 h4 h5 h6 h7
  exact ⟨h1,h2,h3,h4,h5,h6,h7⟩
 unfold F95
 simp only [letJ_eq]
 by_cases e1 : o.2.1 = 1
 ·rw [if_pos (by simpa using e1)]
  refine key _ ⟨fun e=>fwd 1 _ e1 e (fun _=>rfl) (fun h=>absurd rfl h) (fun _=>rfl) (fun _=>rfl) (fun _=>rfl) (fun _=>rfl) (fun _=>rfl),fun ⟨a1,a2,a3,a4,a5,a6,a7⟩=>D6_ext rfl rfl rfl rfl rfl (a1 (by omega)).symm rfl (a3 (by omega)).symm (a4 (by omega)).symm (a5 (by omega)).symm (a6 (by omega)).symm (a7 (by omega)).symm⟩
 rw [if_neg (by simpa using e1)]
 by_cases e2 : o.2.1 = 2
 ·rw [if_pos (by simpa using e2)]
  refine key _ ⟨fun e=>fwd 2 _ e2 e (fun h=>absurd rfl h) (fun _=>rfl) (fun _=>rfl) (fun _=>rfl) (fun _=>rfl) (fun _=>rfl) (fun _=>rfl),fun ⟨a1,a2,a3,a4,a5,a6,a7⟩=>D6_ext rfl rfl rfl rfl rfl rfl (a2 (by omega)).symm (a3 (by omega)).symm (a4 (by omega)).symm (a5 (by omega)).symm (a6 (by omega)).symm (a7 (by omega)).symm⟩
 rw [if_neg (by simpa using e2)]
 by_cases e3 : o.2.1 = 3
 ·rw [if_pos (by simpa using e3)]
  refine key _ ⟨fun e=>fwd 3 _ e3 e (fun _=>rfl) (fun _=>rfl) (fun h=>absurd rfl h) (fun _=>rfl) (fun _=>rfl) (fun _=>rfl) (fun _=>rfl),fun ⟨a1,a2,a3,a4,a5,a6,a7⟩=>D6_ext rfl rfl rfl rfl rfl (a1 (by omega)).symm (a2 (by omega)).symm rfl (a4 (by omega)).symm (a5 (by omega)).symm (a6 (by omega)).symm (a7 (by omega)).symm⟩
 rw [if_neg (by simpa using e3)]
 by_cases e4 : o.2.1 = 4
 ·rw [if_pos (by simpa using e4)]
  refine key _ ⟨fun e=>fwd 4 _ e4 e (fun _=>rfl) (fun _=>rfl) (fun _=>rfl) (fun h=>absurd rfl h) (fun _=>rfl) (fun _=>rfl) (fun _=>rfl),fun ⟨a1,a2,a3,a4,a5,a6,a7⟩=>D6_ext rfl rfl rfl rfl rfl (a1 (by omega)).symm (a2 (by omega)).symm (a3 (by omega)).symm rfl (a5 (by omega)).symm (a6 (by omega)).symm (a7 (by omega)).symm⟩
 rw [if_neg (by simpa using e4)]
 by_cases e5 : o.2.1 = 5
 ·rw [if_pos (by simpa using e5)]
  refine key _ ⟨fun e=>fwd 5 _ e5 e (fun _=>rfl) (fun _=>rfl) (fun _=>rfl) (fun _=>rfl) (fun h=>absurd rfl h) (fun _=>rfl) (fun _=>rfl),fun ⟨a1,a2,a3,a4,a5,a6,a7⟩=>D6_ext rfl rfl rfl rfl rfl (a1 (by omega)).symm (a2 (by omega)).symm (a3 (by omega)).symm (a4 (by omega)).symm rfl (a6 (by omega)).symm (a7 (by omega)).symm⟩
 rw [if_neg (by simpa using e5)]
 by_cases e6 : o.2.1 = 6
 ·rw [if_pos (by simpa using e6)]
  refine key _ ⟨fun e=>fwd 6 _ e6 e (fun _=>rfl) (fun _=>rfl) (fun _=>rfl) (fun _=>rfl) (fun _=>rfl) (fun h=>absurd rfl h) (fun h=>absurd rfl h),fun ⟨a1,a2,a3,a4,a5,a6,a7⟩=>D6_ext rfl rfl rfl rfl rfl (a1 (by omega)).symm (a2 (by omega)).symm (a3 (by omega)).symm (a4 (by omega)).symm (a5 (by omega)).symm rfl rfl⟩
 rw [if_neg (by simpa using e6)]
 exact key _ ⟨fun e=>fwd _ _ rfl e (fun _=>rfl) (fun _=>rfl) (fun _=>rfl) (fun _=>rfl) (fun _=>rfl) (fun _=>rfl) (fun _=>rfl),fun ⟨a1,a2,a3,a4,a5,a6,a7⟩=>D6_ext rfl rfl rfl rfl rfl (a1 e2).symm (a2 e1).symm (a3 e3).symm (a4 e4).symm (a5 e5).symm (a6 e6).symm (a7 e6).symm⟩
def headO (o : D6) : D6:=sett6_4_1 (sett6_3_1 (sett6_2_1 (sett6_1_1 (sett6_0_1 (Ty.zero t6 : D6) o.1) o.2.1) o.2.2.1) o.2.2.2.1) o.2.2.2.2.1
theorem headO_ok {o : D6} (h : OkO o) : OkO (headO o) :=
 ⟨h.lab,by show ([] : List Int).length ≤ big; simp,by show ([] : List Int).length ≤ big; simp,by show ([] : List D1).length ≤ big; simp,by show ([] : List D0).length ≤ big; simp,by show ([] : List Int).length ≤ big; simp,fun i=>by show ([] : List D0).length ≤ big; simp,by show ([] : List D0).length ≤ big; simp,by show ([] : List D0).length ≤ big; simp,by show ([] : List Int).length ≤ big; simp,by show ([] : List Int).length ≤ big; simp⟩
theorem bare_iff (o : D6) (h : OkO o) : Def (Option.bind (F189 o) fun v4=>F181 v4 (headO o)) fun r=>r = true ↔ Alone o:=by
 have key : ∀ x : D6,(x = headO o ↔ Alone o) → Def (F181 x (headO o)) fun r=>r = true ↔ Alone o:=by
  intro x hx
  refine (F181_iff x _ (headO_ok h)).mono (fun v q=>?_)
  exact q.trans hx
 have fwd : ∀ (k : Int),o.2.1 = k → (k ≠ 2 → lnk o = []) → (k ≠ 1 → dat o = []) → (k ≠ 3 → o.2.2.2.2.2.2.2.1 = []) → (k ≠ 4 → thr o = Ty.zero t4) → (k ≠ 5 → gat o = Ty.zero t5) → (k ≠ 6 → o.2.2.2.2.2.2.2.2.2.2.1 = []) → (k ≠ 6 → o.2.2.2.2.2.2.2.2.2.2.2.1 = []) → Alone o:=by
  rintro k rfl h1 h2 h3 h4 h5 h6 h7
  exact ⟨h1,h2,h3,h4,h5,h6,h7⟩
 have c6 : ∀ {a b : D6},a = b → a.2.2.2.2.2.1 = b.2.2.2.2.2.1 ∧ a.2.2.2.2.2.2.1 = b.2.2.2.2.2.2.1 ∧ a.2.2.2.2.2.2.2.1 = b.2.2.2.2.2.2.2.1 ∧ a.2.2.2.2.2.2.2.2.1 = b.2.2.2.2.2.2.2.2.1 ∧ a.2.2.2.2.2.2.2.2.2.1 = b.2.2.2.2.2.2.2.2.2.1 ∧ a.2.2.2.2.2.2.2.2.2.2.1 = b.2.2.2.2.2.2.2.2.2.2.1 ∧ a.2.2.2.2.2.2.2.2.2.2.2.1 = b.2.2.2.2.2.2.2.2.2.2.2.1:=by
  rintro a b rfl; exact ⟨rfl,rfl,rfl,rfl,rfl,rfl,rfl⟩
 refine Def.bind ?_
 unfold F189
 simp only [letJ_eq]
 by_cases e1 : o.2.1 = 1
 ·rw [if_pos (by simpa using e1)]
  refine .ret (key _ ⟨fun e=>?_,fun ⟨a1,a2,a3,a4,a5,a6,a7⟩=>D6_ext rfl rfl rfl rfl rfl (a1 (by omega)) rfl (a3 (by omega)) (a4 (by omega)) (a5 (by omega)) (a6 (by omega)) (a7 (by omega))⟩)
  obtain ⟨q1,q2,q3,q4,q5,q6,q7⟩:=c6 e
  exact fwd 1 e1 (fun _=>q1) (fun h=>absurd rfl h) (fun _=>q3) (fun _=>q4) (fun _=>q5) (fun _=>q6) (fun _=>q7)
 rw [if_neg (by simpa using e1)]
 by_cases e2 : o.2.1 = 2
 ·rw [if_pos (by simpa using e2)]
  refine .ret (key _ ⟨fun e=>?_,fun ⟨a1,a2,a3,a4,a5,a6,a7⟩=>D6_ext rfl rfl rfl rfl rfl rfl (a2 (by omega)) (a3 (by omega)) (a4 (by omega)) (a5 (by omega)) (a6 (by omega)) (a7 (by omega))⟩)
  obtain ⟨q1,q2,q3,q4,q5,q6,q7⟩:=c6 e
  exact fwd 2 e2 (fun h=>absurd rfl h) (fun _=>q2) (fun _=>q3) (fun _=>q4) (fun _=>q5) (fun _=>q6) (fun _=>q7)
 rw [if_neg (by simpa using e2)]
 by_cases e3 : o.2.1 = 3
 ·rw [if_pos (by simpa using e3)]
  refine .ret (key _ ⟨fun e=>?_,fun ⟨a1,a2,a3,a4,a5,a6,a7⟩=>D6_ext rfl rfl rfl rfl rfl (a1 (by omega)) (a2 (by omega)) rfl (a4 (by omega)) (a5 (by omega)) (a6 (by omega)) (a7 (by omega))⟩)
  obtain ⟨q1,q2,q3,q4,q5,q6,q7⟩:=c6 e
  exact fwd 3 e3 (fun _=>q1) (fun _=>q2) (fun h=>absurd rfl h) (fun _=>q4) (fun _=>q5) (fun _=>q6) (fun _=>q7)
 rw [if_neg (by simpa using e3)]
 by_cases e4 : o.2.1 = 4
 ·rw [if_pos (by simpa using e4)]
  refine .ret (key _ ⟨fun e=>?_,fun ⟨a1,a2,a3,a4,a5,a6,a7⟩=>D6_ext rfl rfl rfl rfl rfl (a1 (by omega)) (a2 (by omega)) (a3 (by omega)) rfl (a5 (by omega)) (a6 (by omega)) (a7 (by omega))⟩)
  obtain ⟨q1,q2,q3,q4,q5,q6,q7⟩:=c6 e
  exact fwd 4 e4 (fun _=>q1) (fun _=>q2) (fun _=>q3) (fun h=>absurd rfl h) (fun _=>q5) (fun _=>q6) (fun _=>q7)
 rw [if_neg (by simpa using e4)]
 by_cases e5 : o.2.1 = 5
 ·rw [if_pos (by simpa using e5)]
  refine .ret (key _ ⟨fun e=>?_,fun ⟨a1,a2,a3,a4,a5,a6,a7⟩=>D6_ext rfl rfl rfl rfl rfl (a1 (by omega)) (a2 (by omega)) (a3 (by omega)) (a4 (by omega)) rfl (a6 (by omega)) (a7 (by omega))⟩)
  obtain ⟨q1,q2,q3,q4,q5,q6,q7⟩:=c6 e
  exact fwd 5 e5 (fun _=>q1) (fun _=>q2) (fun _=>q3) (fun _=>q4) (fun h=>absurd rfl h) (fun _=>q6) (fun _=>q7)
 rw [if_neg (by simpa using e5)]
 by_cases e6 : o.2.1 = 6
 ·rw [if_pos (by simpa using e6)]
  refine .ret (key _ ⟨fun e=>?_,fun ⟨a1,a2,a3,a4,a5,a6,a7⟩=>D6_ext rfl rfl rfl rfl rfl (a1 (by omega)) (a2 (by omega)) (a3 (by omega)) (a4 (by omega)) (a5 (by omega)) rfl rfl⟩)
  obtain ⟨q1,q2,q3,q4,q5,q6,q7⟩:=c6 e
  exact fwd 6 e6 (fun _=>q1) (fun _=>q2) (fun _=>q3) (fun _=>q4) (fun _=>q5) (fun h=>absurd rfl h) (fun h=>absurd rfl h)
 rw [if_neg (by simpa using e6)]
 refine .ret (key _ ⟨fun e=>?_,fun ⟨a1,a2,a3,a4,a5,a6,a7⟩=>D6_ext rfl rfl rfl rfl rfl (a1 e2) (a2 e1) (a3 e3) (a4 e4) (a5 e5) (a6 e6) (a7 e6)⟩)
 obtain ⟨q1,q2,q3,q4,q5,q6,q7⟩:=c6 e
 exact fwd _ rfl (fun _=>q1) (fun _=>q2) (fun _=>q3) (fun _=>q4) (fun _=>q5) (fun _=>q6) (fun _=>q7)
end Go.Fn
namespace Go.Fn
set_option linter.unusedVariables false
open Go Go.Ab Go.Tx
theorem fit_mid {l pre post : List D0} {v : D0} (e : l = pre ++ v :: post) (h : FitL l) : (0 ≤ v.2.1 ∧ v.2.1 ≤ 5 ∧ v.2.1 ≠ 2) ∧ ∀ u,pre.getLast? = some u → u.1 < v.1:=by
 refine ⟨h.lev v (by rw [e]; simp),fun u hu=>?_⟩
 have hr:=h.rise
 rw [e,List.pairwise_append] at hr
 exact hr.2.2 u (List.mem_of_getLast? hu) v (by simp)
theorem fit_snoc {pre : List D0} {v : D0} (h : FitL pre) (hl : 0 ≤ v.2.1 ∧ v.2.1 ≤ 5 ∧ v.2.1 ≠ 2) (hp : ∀ u,pre.getLast? = some u → u.1 < v.1) : FitL (pre ++ [v]):=by
 refine ⟨?_,?_⟩
 ·rw [List.pairwise_append]
  refine ⟨h.rise,by simp,fun x hx y hy=>?_⟩
  simp only [List.mem_singleton] at hy; subst hy
  cases hg : pre.getLast? with
  | none=>rw [List.getLast?_eq_none_iff.1 hg] at hx; cases hx
  | some u =>
   have hu:=hp u hg
   have hr:=h.rise
   obtain ⟨ys,rfl⟩:=List.getLast?_eq_some_iff.1 hg
   rw [List.pairwise_append] at hr
   rcases List.mem_append.1 hx with hx | hx
   ·have:=hr.2.2 x hx u (by simp); omega
   ·simp at hx; subst hx; omega
 ·intro p hp'
  rcases List.mem_append.1 hp' with hp' | hp'
  ·exact h.lev p hp'
  ·simp at hp'; subst hp'; exact hl
theorem last_none {α : Type} {pre : List α} (h : ¬ 0 < pre.length) : ∀ u,pre.getLast? = some u → False:=fun u hu=>by
 have : pre = []:=List.length_eq_zero_iff.1 (by omega)
 rw [this] at hu; cases hu
theorem F155_iff (l : List D0) (hl : l.length ≤ big) : Def (F155 l) fun b=>b = true ↔ FitL l:=by
 unfold F155
 simp only [letJ_eq,F218,Option.bind_some]
 refine Def.for1 (l:=l) (fun pre=>FitL pre) hl ⟨List.Pairwise.nil,by simp⟩ (fun pre v post e hi=>?_) (fun hi=>.done (.ret ⟨fun _=>hi,fun _=>rfl⟩))
 refine Def.bindI _ (fun _=>Def.at e) (fun v4 q4 _=>?_)
 refine Def.bindI _ (fun hc=>Def.prev e hl (by simp at hc; omega)) (fun v5 q5 _=>?_)
 refine Def.bindI _ (fun _=>Def.at e) (fun v6 q6 _=>?_)
 simp at q4 q5 q6
 refine Def.ite (fun hc=>.done (.ret ⟨fun h=>(by cases h),fun hf=>?_⟩)) (fun hc=>.turn ⟨rfl,?_⟩)
 ·obtain ⟨⟨h0,h5,h2⟩,hp⟩:=fit_mid e hf
  have e4:=q4 h0 h5
  subst e4
  simp [h0,h5,h2] at hc
  obtain ⟨hpos,hge⟩:=hc
  have:=hp _ (q5 h0 h5 h2 hpos)
  have e6:=q6 h0 h5 h2 hpos
  rw [e6] at hge
  omega
 ·simp at hc
  obtain ⟨⟨⟨h0,h5⟩,h2⟩,hp⟩:=hc
  have e4:=q4 h0 h5
  subst e4
  refine fit_snoc hi ⟨h0,h5,h2⟩ fun u hu=>?_
  by_cases hpos : 0 < pre.length
  ·have h1:=q5 h0 h5 h2 hpos
   have h3:=hp hpos
   rw [q6 h0 h5 h2 hpos] at h3
   rw [hu] at h1; cases h1
   omega
  ·exact (last_none hpos u hu).elim
theorem F233_iff (l : List D0) (hl : l.length ≤ big) : Def (F233 l) fun b=>b = true ↔ FitL l:=by
 unfold F233
 simp only [letJ_eq,F278,Option.bind_some]
 refine Def.for1 (l:=l) (fun pre=>FitL pre) hl ⟨List.Pairwise.nil,by simp⟩ (fun pre v post e hi=>?_) (fun hi=>.done (.ret ⟨fun _=>hi,fun _=>rfl⟩))
 refine Def.bindI _ (fun hc=>Def.prev e hl (by simp at hc; omega)) (fun v5 q5 _=>?_)
 simp at q5
 refine Def.ite (fun hc=>.done (.ret ⟨fun h=>(by cases h),fun hf=>?_⟩)) (fun hc=>.turn ⟨rfl,?_⟩)
 ·obtain ⟨⟨h0,h5,h2⟩,hp⟩:=fit_mid e hf
  simp [h0,h5,h2] at hc
  obtain ⟨hpos,hge⟩:=hc
  have:=hp _ (q5 h0 h5 h2 hpos)
  omega
 ·simp at hc
  obtain ⟨⟨⟨h0,h5⟩,h2⟩,hp⟩:=hc
  refine fit_snoc hi ⟨h0,h5,h2⟩ fun u hu=>?_
  by_cases hpos : 0 < pre.length
  ·have h1:=q5 h0 h5 h2 hpos
   have h3:=hp hpos
   rw [hu] at h1; cases h1
   omega
  ·exact (last_none hpos u hu).elim
structure KeptL (l : List D0) : Prop where
 len : l.length ≤ 16
 fit : FitL l
 low : ∀ p ∈ l,p.2.1 ≠ 5
theorem F94_iff (l : List D0) (hl : l.length ≤ big) : Def (F94 l) fun b=>b = true ↔ KeptL l:=by
 unfold F94
 simp only [letJ_eq]
 refine Def.for1 (l:=l) (fun pre=>∀ p ∈ pre,p.2.1 ≠ 5) hl (by simp) (fun pre v post e hi=>?_) (fun hi=>?_)
 ·refine Def.ite (fun hc=>.done (.ret ⟨fun h=>(by cases h),fun hk=>?_⟩)) (fun hc=>.turn ⟨rfl,fun p hp=>?_⟩)
  ·exact absurd (by simpa using hc) (hk.low v (by rw [e]; simp))
  ·rcases List.mem_append.1 hp with hp | hp
   ·exact hi p hp
   ·simp at hp; subst hp; simpa using hc
 ·refine Def.done (Def.bindI _ (fun _=>F155_iff l hl) (fun b q _=>.ret ?_))
  by_cases h' : ((l.length : Nat) : Int) ≤ 16
  ·rw [if_pos (by simpa using h')]
   show b = true ↔ KeptL l
   rw [q (by simpa using h')]
   exact ⟨fun h=>⟨by omega,h,hi⟩,fun h=>h.fit⟩
  ·rw [if_neg (by simpa using h')]
   exact ⟨fun h=>(by cases h),fun h=>by have:=h.len; omega⟩
theorem F187_iff (l : List D0) (hl : l.length ≤ big) : Def (F187 l) fun b=>b = true ↔ KeptL l:=by
 unfold F187
 refine Def.bind' (F233_iff l hl) (fun b q=>?_)
 refine Def.ite (fun hc=>?_) (fun hc=>.ret ⟨fun h=>(by cases h),fun hk=>?_⟩)
 ·simp at hc
  have hf:=q.1 hc.1
  simp only [letJ_eq,F232,Option.bind_some]
  refine Def.for1 (l:=l) (fun pre=>∀ p ∈ pre,p.2.1 ≠ 5) hl (by simp) (fun pre v post e hi=>?_) (fun hi=>.done (.ret ⟨fun _=>⟨by omega,hf,hi⟩,fun _=>by decide⟩))
  refine Def.ite (fun hc'=>.done (.ret ⟨fun h=>?_,fun hk=>?_⟩)) (fun hc'=>.turn ⟨rfl,fun p hp=>?_⟩)
  ·simp at h
  ·exact absurd (by simpa using hc') (hk.low v (by rw [e]; simp))
  ·rcases List.mem_append.1 hp with hp | hp
   ·exact hi p hp
   ·simp at hp; subst hp; simpa using hc'
 ·have:=q.2 hk.fit
  have h16:=hk.len
  simp [this] at hc
  omega
def LeqP (a b : List D0) : Prop:=(∀ p ∈ a,p.2.1 ≤ getL b p.1) ∧ ∀ q ∈ b,getL a q.1 ≤ q.2.1
theorem leqB_iff {a b : List D0} (ha : FitL a) (hb : FitL b) : leqB a b = true ↔ LeqP a b:=by
 unfold leqB LeqP
 rw [Bool.and_eq_true,List.all_eq_true,List.all_eq_true]
 refine and_congr (forall_congr' fun p=>forall_congr' fun hp=>?_) (forall_congr' fun q=>forall_congr' fun hq=>?_)
 ·have h1:=ha.lev p hp
  have h2:=getL_in hb p.1
  rw [lv_in h1.1 h1.2.1,lv_in h2.1 h2.2,decide_eq_true_eq]
 ·have h1:=hb.lev q hq
  have h2:=getL_in ha q.1
  rw [lv_in h1.1 h1.2.1,lv_in h2.1 h2.2,decide_eq_true_eq]
theorem FitL.tail {p : D0} {l : List D0} (h : FitL (p :: l)) : FitL l:=⟨(List.pairwise_cons.1 h.rise).2,fun q hq=>h.lev q (by simp [hq])⟩
theorem getL_cons {p : D0} {l : List D0} {c : Int} : getL (p :: l) c = if p.1 = c then p.2.1 else getL l c:=by
 unfold getL
 rw [List.find?_cons]
 by_cases h : p.1 = c
 ·simp [h]
 ·have : (p.1 == c) = false:=by simpa using h
  rw [this,if_neg h]
theorem leq_left {p : D0} {a b : List D0} (ha : FitL (p :: a)) (hb : ∀ q ∈ b,p.1 < q.1) : LeqP (p :: a) b ↔ p.2.1 ≤ 2 ∧ LeqP a b:=by
 have h1 : getL b p.1 = 2:=getL_none fun q hq=>by have:=hb q hq; omega
 unfold LeqP
 constructor
 ·rintro ⟨q1,q2⟩
  refine ⟨by have:=q1 p (by simp); omega,fun x hx=>q1 x (by simp [hx]),fun q hq=>?_⟩
  have:=q2 q hq
  rw [getL_cons,if_neg (by have:=hb q hq; omega)] at this
  exact this
 ·rintro ⟨h2,q1,q2⟩
  refine ⟨fun x hx=>?_,fun q hq=>?_⟩
  ·rcases List.mem_cons.1 hx with rfl | hx
   ·omega
   ·exact q1 x hx
  ·rw [getL_cons,if_neg (by have:=hb q hq; omega)]
   exact q2 q hq
theorem leq_right {q : D0} {a b : List D0} (hb : FitL (q :: b)) (ha : ∀ p ∈ a,q.1 < p.1) : LeqP a (q :: b) ↔ 2 ≤ q.2.1 ∧ LeqP a b:=by
 have h1 : getL a q.1 = 2:=getL_none fun p hp=>by have:=ha p hp; omega
 unfold LeqP
 constructor
 ·rintro ⟨q1,q2⟩
  refine ⟨by have:=q2 q (by simp); omega,fun x hx=>?_,fun x hx=>q2 x (by simp [hx])⟩
  have:=q1 x hx
  rw [getL_cons,if_neg (by have:=ha x hx; omega)] at this
  exact this
 ·rintro ⟨h2,q1,q2⟩
  refine ⟨fun x hx=>?_,fun x hx=>?_⟩
  ·rw [getL_cons,if_neg (by have:=ha x hx; omega)]
   exact q1 x hx
  ·rcases List.mem_cons.1 hx with rfl | hx
   ·omega
   ·exact q2 x hx
theorem leq_both {p q : D0} {a b : List D0} (ha : FitL (p :: a)) (hb : FitL (q :: b)) (e : p.1 = q.1) : LeqP (p :: a) (q :: b) ↔ p.2.1 ≤ q.2.1 ∧ LeqP a b:=by
 have r1:=(List.pairwise_cons.1 ha.rise).1
 have r2:=(List.pairwise_cons.1 hb.rise).1
 unfold LeqP
 constructor
 ·rintro ⟨q1,q2⟩
  refine ⟨?_,fun x hx=>?_,fun x hx=>?_⟩
  ·have:=q1 p (by simp)
   rw [getL_cons,if_pos e.symm] at this; exact this
  ·have:=q1 x (by simp [hx])
   rw [getL_cons,if_neg (by have:=r1 x hx; omega)] at this; exact this
  ·have:=q2 x (by simp [hx])
   rw [getL_cons,if_neg (by have:=r2 x hx; omega)] at this; exact this
 ·rintro ⟨h2,q1,q2⟩
  refine ⟨fun x hx=>?_,fun x hx=>?_⟩
  ·rcases List.mem_cons.1 hx with rfl | hx
   ·rw [getL_cons,if_pos e.symm]; exact h2
   ·rw [getL_cons,if_neg (by have:=r1 x hx; omega)]; exact q1 x hx
  ·rcases List.mem_cons.1 hx with rfl | hx
   ·rw [getL_cons,if_pos e]; exact h2
   ·rw [getL_cons,if_neg (by have:=r2 x hx; omega)]; exact q2 x hx
theorem F285_eq {a b : Int} (ha : 0 ≤ a ∧ a ≤ 5) (hb : 0 ≤ b ∧ b ≤ 5) : F285 a b = some (decide (a ≤ b)):=by
 unfold F285
 rw [F301_eq ha.1 ha.2,F301_eq hb.1 hb.2]
 rfl
theorem slc_tail {α : Type} (p : α) (a : List α) : slcO (p :: a) 1 (((p :: a).length : Nat) : Int) = some a:=by
 rw [slcO,if_pos ⟨by omega,by simp only [List.length_cons]; omega,by simp⟩]
 simp
theorem F241_iff (a b : List D0) (hla : a.length ≤ 1000) (hlb : b.length ≤ 1000) (ha : FitL a) (hb : FitL b) : Def (F241 a b) fun r=>r = true ↔ LeqP a b:=by
 unfold F241
 simp only [letJ_eq]
 refine Def.loop (fun s : List D0 × List D0=>s.1.length ≤ 1000 ∧ s.2.length ≤ 1000 ∧ FitL s.1 ∧ FitL s.2 ∧ (LeqP a b ↔ LeqP s.2 s.1)) (fun s=>s.1.length + s.2.length) ⟨hlb,hla,hb,ha,Iff.rfl⟩ (fun s hi=>?_)
 obtain ⟨B,A⟩:=s
 obtain ⟨lB,lA,fB,fA,hq⟩:=hi
 simp only at lB lA fB fA hq ⊢
 rw [wrap_i64 (x:=((A.length : Nat) : Int) + ((B.length : Nat) : Int)) (by omega) (by omega)]
 have two : (0 : Int) ≤ 2 ∧ (2 : Int) ≤ 5:=by omega
 cases A with
 | nil =>
  cases B with
  | nil =>
   rw [if_neg (by simp)]
   exact .done (.ret ⟨fun _=>hq.2 ⟨by simp,by simp⟩,fun _=>rfl⟩)
  | cons q B =>
   obtain ⟨h0,h5,_⟩:=fB.lev q (by simp)
   have hi0 : idxO (q :: B) 0 = some q:=rfl
   rw [if_pos (by simp only [List.length_nil,List.length_cons,decide_eq_true_eq]; omega)]
   simp only [hi0,slc_tail,F285_eq two ⟨h0,h5⟩,List.length_nil,List.length_cons,Option.bind_some,Int.ofNat_zero,beq_self_eq_true,Bool.not_true,Bool.false_and,Bool.false_eq_true,if_false,if_true,Bool.and_true,Bool.and_false,Int.lt_irrefl,gt_iff_lt,decide_false,Int.natCast_zero]
   have hne : (((B.length + 1 : Nat) : Int) == 0) = false:=by simp; omega
   have hpos : decide (0 < ((B.length + 1 : Nat) : Int)) = true:=by simp only [decide_eq_true_eq]; omega
   have hs:=slc_tail q B
   simp only [List.length_cons] at hs
   simp only [hne,hpos,hs,hi0,F285_eq two ⟨h0,h5⟩,Bool.not_false,Bool.false_eq_true,if_false,if_true,Bool.true_and,Bool.and_self,Bool.and_false,Option.bind_some]
   have hl:=leq_right (a:=[]) fB (by simp)
   refine Def.ite (fun hc=>.done (.ret ⟨fun h=>(by cases h),fun hp=>?_⟩)) (fun hc=>.turn ⟨⟨by simp only [List.length_cons] at lB; simp only; omega,by simp,fB.tail,fA,?_⟩,by simp⟩)
   ·have:=(hl.1 (hq.1 hp)).1
    simp at hc; omega
   ·simp at hc
    rw [hq,hl]
    exact ⟨fun h=>h.2,fun h=>⟨hc,h⟩⟩
 | cons p A =>
  obtain ⟨p0,p5,_⟩:=fA.lev p (by simp)
  have hp0 : idxO (p :: A) 0 = some p:=rfl
  have hsA:=slc_tail p A
  have hneA : (((A.length + 1 : Nat) : Int) == 0) = false:=by simp; omega
  have hposA : decide (0 < ((A.length + 1 : Nat) : Int)) = true:=by simp only [decide_eq_true_eq]; omega
  simp only [List.length_cons] at hsA
  rw [if_pos (by simp only [List.length_cons,decide_eq_true_eq]; omega)]
  cases B with
  | nil =>
   simp only [hp0,hsA,hneA,hposA,F285_eq ⟨p0,p5⟩ two,List.length_nil,List.length_cons,Option.bind_some,Int.ofNat_zero,beq_self_eq_true,Bool.not_true,Bool.not_false,Bool.false_and,Bool.false_eq_true,if_false,if_true,Bool.and_true,Bool.and_false,Int.lt_irrefl,gt_iff_lt,decide_false,Int.natCast_zero,Bool.true_and,Bool.and_self]
   have hl:=leq_left (b:=[]) fA (by simp)
   refine Def.ite (fun hc=>.done (.ret ⟨fun h=>(by cases h),fun hp=>?_⟩)) (fun hc=>.turn ⟨⟨by simp,by simp only [List.length_cons] at lA; simp only; omega,fB,fA.tail,?_⟩,by simp⟩)
   ·have:=(hl.1 (hq.1 hp)).1
    simp at hc; omega
   ·simp at hc
    rw [hq,hl]
    exact ⟨fun h=>h.2,fun h=>⟨hc,h⟩⟩
  | cons q B =>
   obtain ⟨q0,q5,_⟩:=fB.lev q (by simp)
   have hq0 : idxO (q :: B) 0 = some q:=rfl
   have hsB:=slc_tail q B
   have hneB : (((B.length + 1 : Nat) : Int) == 0) = false:=by simp; omega
   have hposB : decide (0 < ((B.length + 1 : Nat) : Int)) = true:=by simp only [decide_eq_true_eq]; omega
   simp only [List.length_cons] at hsB lA lB
   have rA:=(List.pairwise_cons.1 fA.rise).1
   have rB:=(List.pairwise_cons.1 fB.rise).1
   simp only [hp0,hq0,hsA,hsB,hneA,hneB,hposA,hposB,List.length_cons,Option.bind_some,Bool.not_false,Bool.false_eq_true,if_false,if_true,Bool.and_true,gt_iff_lt,Bool.true_and,Bool.and_self]
   by_cases h1 : p.1 ≤ q.1
   ·rw [if_pos (by simpa using h1)]
    by_cases h2 : q.1 ≤ p.1
    ·rw [if_pos (by simpa using h2)]
     have e : p.1 = q.1:=by omega
     have hl:=leq_both fA fB e
     simp only [F285_eq ⟨p0,p5⟩ ⟨q0,q5⟩,Option.bind_some]
     refine Def.ite (fun hc=>.done (.ret ⟨fun h=>(by cases h),fun hp=>?_⟩)) (fun hc=>.turn ⟨⟨by simp only; omega,by simp only; omega,fB.tail,fA.tail,?_⟩,by simp only [List.length_cons]; omega⟩)
     ·have:=(hl.1 (hq.1 hp)).1
      simp at hc; omega
     ·simp at hc
      rw [hq,hl]
      exact ⟨fun h=>h.2,fun h=>⟨hc,h⟩⟩
    ·rw [if_neg (by simpa using h2)]
     have hl:=leq_left (b:=q :: B) fA (fun x hx=>by
      rcases List.mem_cons.1 hx with rfl | hx
      ·omega
      ·have:=rB x hx; omega)
     simp only [F285_eq ⟨p0,p5⟩ two,Option.bind_some]
     refine Def.ite (fun hc=>.done (.ret ⟨fun h=>(by cases h),fun hp=>?_⟩)) (fun hc=>.turn ⟨⟨by simp only [List.length_cons]; omega,by simp only; omega,fB,fA.tail,?_⟩,by simp only [List.length_cons]; omega⟩)
     ·have:=(hl.1 (hq.1 hp)).1
      simp at hc; omega
     ·simp at hc
      rw [hq,hl]
      exact ⟨fun h=>h.2,fun h=>⟨hc,h⟩⟩
   ·rw [if_neg (by simpa using h1),if_pos (by simp; omega)]
    have hl:=leq_right (a:=p :: A) fB (fun x hx=>by
      rcases List.mem_cons.1 hx with rfl | hx
      ·omega
      ·have:=rA x hx; omega)
    simp only [F285_eq two ⟨q0,q5⟩,Option.bind_some]
    refine Def.ite (fun hc=>.done (.ret ⟨fun h=>(by cases h),fun hp=>?_⟩)) (fun hc=>.turn ⟨⟨by simp only; omega,by simp only [List.length_cons]; omega,fB.tail,fA,?_⟩,by simp only [List.length_cons]; omega⟩)
    ·have:=(hl.1 (hq.1 hp)).1
     simp at hc; omega
    ·simp at hc
     rw [hq,hl]
     exact ⟨fun h=>h.2,fun h=>⟨hc,h⟩⟩
theorem F100_iff (a b : List D0) (hla : a.length ≤ 1000) (hlb : b.length ≤ 1000) (ha : FitL a) (hb : FitL b) : Def (F100 a b) fun r=>r = true ↔ LeqP a b :=
 ⟨_,F100_eq a b (by unfold big; omega) (by unfold big; omega),leqB_iff ha hb⟩
end Go.Fn
namespace Go.Fn
set_option linter.unusedVariables false
open Go Go.Ab Go.Tx
def Adj {α : Type} (R : α → α → Prop) (l : List α) : Prop:=∀ pre u v post,l = pre ++ u :: v :: post → R u v
theorem adj_mid {α : Type} {R : α → α → Prop} {l pre post : List α} {v : α} (e : l = pre ++ v :: post) (h : Adj R l) : ∀ u,pre.getLast? = some u → R u v:=by
 intro u hu
 obtain ⟨ys,rfl⟩:=List.getLast?_eq_some_iff.1 hu
 exact h ys u v post (by rw [e]; simp)
theorem adj_snoc {α : Type} {R : α → α → Prop} {pre : List α} {v : α} (h : Adj R pre) (hp : ∀ u,pre.getLast? = some u → R u v) : Adj R (pre ++ [v]):=by
 intro p u w post e
 rcases List.eq_nil_or_concat post with rfl | ⟨q,x,rfl⟩
 ·have e' : pre ++ [v] = (p ++ [u]) ++ [w]:=by rw [e]; simp
  obtain ⟨e1,e2⟩:=List.append_inj' e' rfl
  cases e2
  exact hp u (by rw [e1]; simp)
 ·have e' : pre ++ [v] = (p ++ u :: w :: q) ++ [x]:=by rw [e]; simp
  obtain ⟨e1,_⟩:=List.append_inj' e' rfl
  exact h p u w q e1
theorem adj_nil {α : Type} {R : α → α → Prop} : Adj R ([] : List α):=by
 intro p u v q e
 cases p <;> cases e
theorem rise_snoc {α : Type} {key : α → Int} {pre : List α} {v : α} (h : pre.Pairwise (fun a b=>key a < key b)) (hp : ∀ u,pre.getLast? = some u → key u < key v) : (pre ++ [v]).Pairwise (fun a b=>key a < key b):=by
 rw [List.pairwise_append]
 refine ⟨h,by simp,fun x hx y hy=>?_⟩
 simp only [List.mem_singleton] at hy; subst hy
 cases hg : pre.getLast? with
 | none=>rw [List.getLast?_eq_none_iff.1 hg] at hx; cases hx
 | some u =>
  have hu:=hp u hg
  obtain ⟨ys,rfl⟩:=List.getLast?_eq_some_iff.1 hg
  rw [List.pairwise_append] at h
  rcases List.mem_append.1 hx with hx | hx
  ·have:=h.2.2 x hx u (by simp); omega
  ·simp at hx; subst hx; omega
theorem rise_mid {α : Type} {key : α → Int} {l pre post : List α} {v : α} (e : l = pre ++ v :: post) (h : l.Pairwise (fun a b=>key a < key b)) : ∀ u,pre.getLast? = some u → key u < key v:=by
 intro u hu
 rw [e,List.pairwise_append] at h
 exact h.2.2 u (List.mem_of_getLast? hu) v (by simp)
theorem Def.rise1 {α ρ : Type} {l : List α} (key : α → Int) {f : α → Option Int} (hf : ∀ v,f v = some (key v)) (hl : l.length ≤ 9223372036854775807) {X Y : Option ρ} {Q : ρ → Prop}
  (hx : ¬ l.Pairwise (fun a b=>key a < key b) → Def X Q) (hy : l.Pairwise (fun a b=>key a < key b) → Def Y Q) :
  Def (whileO (σ:=Int) (ρ:=ρ) (fun s=>if (decide (s < ((List.length l : Nat) : Int))) = true then Option.bind (idxO l (IntKind.wrap .i64 (s - (1 : Int)))) fun v2=>Option.bind (f v2) fun v3=>Option.bind (idxO l s) fun v4=>Option.bind (f v4) fun v5=>if (decide (v3 ≥ v5)) = true then done X else turn (IntKind.wrap .i64 (s + (1 : Int))) else done Y) (1 : Int)) Q:=by
 have lift : ∀ {Z : Option ρ},Def Z Q → Def (done (σ:=Int) Z) fun r=>match r with | .inl s'=>(1 ≤ s' ∧ (s' ≤ l.length ∨ s' = 1) ∧ (l.take s'.toNat).Pairwise (fun a b=>key a < key b)) ∧ (l.length - s'.toNat) < l.length + 1 | .inr r=>Q r:=fun h=>.done h
 refine Def.loop (fun i : Int=>1 ≤ i ∧ (i ≤ l.length ∨ i = 1) ∧ (l.take i.toNat).Pairwise (fun a b=>key a < key b)) (fun i : Int=>l.length - i.toNat) ⟨by omega,.inr rfl,?_⟩ (fun i hi=>?_)
 ·cases l with
  | nil=>simp
  | cons a l=>simp
 ·obtain ⟨h1,h2,h3⟩:=hi
  refine Def.ite (fun hc=>?_) (fun hc=>.done (hy ?_))
  ·have hlt : i < l.length:=by simpa using hc
   obtain ⟨k,rfl⟩ : ∃ k : Nat,i = k:=⟨i.toNat,by omega⟩
   have hk : k < l.length:=by omega
   have hk1 : k - 1 < l.length:=by omega
   have e1 : IntKind.wrap .i64 ((k : Int) - 1) = ((k - 1 : Nat) : Int):=by rw [wrap_i64 (by omega) (by omega)]; omega
   rw [e1,idxO_nat,idxO_nat,List.getElem?_eq_getElem hk,List.getElem?_eq_getElem hk1]
   simp only [Option.bind_some,hf]
   simp only [Int.toNat_natCast] at h3
   refine Def.ite (fun hc=>.done (hx fun hp=>?_)) (fun hc=>.turn ?_)
   ·have:=List.pairwise_iff_getElem.1 hp (k - 1) k hk1 hk (by omega)
    simp at hc; omega
   ·have hc : key l[k - 1] < key l[k]:=by simpa using hc
    rw [wrap_i64 (by omega) (by omega)]
    refine ⟨⟨by omega,.inl (by omega),?_⟩,by omega⟩
    rw [show ((k : Int) + 1).toNat = k + 1 by omega,List.take_add_one,List.getElem?_eq_getElem hk]
    refine rise_snoc h3 fun u hu=>?_
    rw [List.getLast?_eq_getElem?,List.getElem?_take,List.length_take,Nat.min_eq_left (by omega),if_pos (by omega),List.getElem?_eq_getElem hk1] at hu
    cases hu
    exact hc
  ·have hge : ¬ i < l.length:=by simpa using hc
   rw [List.take_of_length_le (by omega)] at h3
   exact h3
structure RisP (l : List Int) : Prop where
 rise : l.Pairwise (· < ·)
 id : ∀ x ∈ l,1 ≤ x ∧ x ≤ 2305843009213693952
theorem F97_iff (l : List Int) (hl : l.length ≤ big) : Def (F97 l) fun b=>b = true ↔ RisP l:=by
 unfold F97
 simp only [letJ_eq,F93,Option.bind_some]
 refine Def.for1 (l:=l) (fun pre=>RisP pre) hl ⟨List.Pairwise.nil,by simp⟩ (fun pre v post e hi=>?_) (fun hi=>.done (.ret ⟨fun _=>hi,fun _=>rfl⟩))
 refine Def.bindI _ (fun hc=>Def.prev e hl (by simp at hc; omega)) (fun u hu _=>?_)
 refine Def.bindI _ (fun hc=>Def.at e) (fun v' hv _=>?_)
 simp at hu hv
 refine Def.ite (fun hc=>.done (.ret ⟨fun h=>(by cases h),fun hr=>?_⟩)) (fun hc=>.turn ⟨rfl,?_⟩)
 ·have hid:=hr.id v (by rw [e]; simp)
  have hm:=rise_mid (key:=fun x=>x) e hr.rise
  simp [hid] at hc
  have h1:=hm u (hu hid.1 hid.2 hc.1)
  have h2:=hv hid.1 hid.2 hc.1
  rw [h2] at hc
  have:=hc.2
  omega
 ·simp at hc
  obtain ⟨⟨c1,c2⟩,c3⟩:=hc
  refine ⟨rise_snoc (key:=fun x=>x) hi.rise fun w hw=>?_,fun x hx=>?_⟩
  ·by_cases hpos : 0 < pre.length
   ·have h1:=hu c1 c2 hpos
    have h3:=c3 hpos
    rw [hv c1 c2 hpos] at h3
    rw [hw] at h1; cases h1
    exact h3
   ·exact (last_none hpos w hw).elim
  ·rcases List.mem_append.1 hx with hx | hx
   ·exact hi.id x hx
   ·simp at hx; subst hx; exact ⟨c1,c2⟩
structure OneP (m : D1) : Prop where
 va : 0 ≤ m.1 ∧ m.1 < 1048576
 off : 0 ≤ m.2.2.2.2.1 ∧ m.2.2.2.2.1 < 1048576
 n : 1 ≤ m.2.1 ∧ m.2.1 ≤ 1048576 - m.1 ∧ m.2.1 ≤ 1048576 - m.2.2.2.2.1
theorem F156_iff (m : D1) : Def (F156 m) fun b=>b = true ↔ OneP m:=by
 unfold F156
 simp only [letV_eq]
 refine .ret ?_
 simp only [Bool.if_false_right,Bool.and_eq_true,decide_eq_true_eq]
 constructor
 ·rintro ⟨⟨⟨⟨⟨⟨⟨h1,h2⟩,h3⟩,h4⟩,h5⟩,h6⟩,h7⟩,h8⟩
  rw [wrap_i64 (by omega) (by omega)] at h7 h8
  exact ⟨⟨by omega,h2⟩,⟨by omega,h4⟩,by omega,h7,h8⟩
 ·rintro ⟨⟨h1,h2⟩,⟨h3,h4⟩,h5,h6,h7⟩
  rw [wrap_i64 (by omega) (by omega),wrap_i64 (by omega) (by omega)]
  exact ⟨⟨⟨⟨⟨⟨⟨h1,h2⟩,h3⟩,h4⟩,h5⟩,by omega⟩,h6⟩,h7⟩
theorem F281_iff (m : D1) : Def (F281 m) fun b=>b = true ↔ OneP m:=by
 unfold F281 F303
 rw [Option.bind_some]
 refine Def.bindI _ (fun _=>Def.of rfl rfl) (fun v q n=>.ret ?_)
 by_cases hc : ((if (if (if (decide (m.1 ≥ (0 : Int))) = true then (decide (m.1 < (1048576 : Int))) else false) = true then (decide (m.2.1 ≥ (1 : Int))) else false) = true then (decide (m.2.1 ≤ (IntKind.wrap .i64 ((1048576 : Int) - m.1)))) else false)) = true
 ·have hq:=q (by rw [hc]; rfl)
  rw [hc,if_pos rfl,← hq]
  simp only [Bool.if_false_right,Bool.and_eq_true,decide_eq_true_eq] at hc ⊢
  obtain ⟨⟨⟨h1,h2⟩,h5⟩,h7⟩:=hc
  rw [wrap_i64 (by omega) (by omega)] at h7
  constructor
  ·rintro ⟨⟨⟨h3,h4⟩,_⟩,h8⟩
   rw [wrap_i64 (by omega) (by omega)] at h8
   exact ⟨⟨by omega,h2⟩,⟨by omega,h4⟩,by omega,h7,h8⟩
  ·rintro ⟨_,⟨h3,h4⟩,_,_,h8⟩
   rw [wrap_i64 (by omega) (by omega)]
   exact ⟨⟨⟨h3,h4⟩,h5⟩,h8⟩
 ·rw [if_neg hc]
  refine ⟨fun h=>(by cases h),fun h=>absurd ?_ hc⟩
  obtain ⟨⟨h1,h2⟩,_,h5,h6,_⟩:=h
  simp only [Bool.if_false_right,Bool.and_eq_true,decide_eq_true_eq]
  rw [wrap_i64 (by omega) (by omega)]
  exact ⟨⟨⟨h1,h2⟩,h5⟩,h6⟩
structure PagP (l : List D1) : Prop where
 len : l.length ≤ 16
 one : ∀ m ∈ l,OneP m
 adj : Adj (fun u v : D1=>IntKind.wrap .i64 (u.1 + u.2.1) ≤ v.1) l
theorem F98_iff (l : List D1) : Def (F98 l) fun b=>b = true ↔ PagP l:=by
 unfold F98
 refine Def.ite (fun h=>.ret ⟨fun h=>(by cases h),fun hp=>?_⟩) (fun hn=>?_)
 ·have:=hp.len
  simp at h; omega
 simp only [letJ_eq]
 have hl : l.length ≤ 16:=by simp at hn; omega
 refine Def.for1 (l:=l) (fun pre=>(∀ m ∈ pre,OneP m) ∧ Adj (fun u v : D1=>IntKind.wrap .i64 (u.1 + u.2.1) ≤ v.1) pre) (by omega) ⟨by simp,adj_nil⟩ (fun pre v post e hi=>?_) (fun hi=>.done (.ret ⟨fun _=>⟨hl,hi.1,hi.2⟩,fun _=>rfl⟩))
 refine Def.bind' (F156_iff v) (fun v3 q3=>?_)
 refine Def.bindI _ (fun hc=>Def.prev e (by omega) (by simp at hc; omega)) (fun v4 q4 _=>?_)
 refine Def.bindI _ (fun hc=>Def.prev e (by omega) (by simp at hc; omega)) (fun v5 q5 _=>?_)
 refine Def.bindI _ (fun _=>Def.at e) (fun v6 q6 _=>?_)
 simp at q4 q5 q6
 refine Def.ite (fun hc=>.done (.ret ⟨fun h=>(by cases h),fun hp=>?_⟩)) (fun hc=>.turn ⟨rfl,fun m hm=>?_,adj_snoc hi.2 fun u hu=>?_⟩)
 ·have e3:=q3.2 (hp.one v (by rw [e]; simp))
  subst e3
  simp at hc
  have h1:=q4 rfl hc.1
  have h2:=q5 rfl hc.1
  have h3:=q6 rfl hc.1
  rw [h1] at h2; cases h2
  have:=adj_mid e hp.adj v4 h1
  rw [h3] at hc
  omega
 ·simp at hc
  rcases List.mem_append.1 hm with hm | hm
  ·exact hi.1 m hm
  ·simp at hm; subst hm; exact q3.1 hc.1
 ·simp at hc
  obtain ⟨rfl,hc⟩:=hc
  by_cases hpos : 0 < pre.length
  ·have h1:=q4 rfl hpos
   have h2:=q5 rfl hpos
   have h3:=hc hpos
   rw [q6 rfl hpos] at h3
   rw [hu] at h1 h2; cases h1; cases h2
   exact h3
  ·exact (last_none hpos u hu).elim
theorem F239_iff (l : List D1) (hl : l.length ≤ big) : Def (F239 l) fun b=>b = true ↔ PagP l:=by
 unfold F239
 simp only [letJ_eq,F282]
 refine Def.for1 (l:=l) (fun pre=>(∀ m ∈ pre,OneP m) ∧ Adj (fun u v : D1=>IntKind.wrap .i64 (u.1 + u.2.1) ≤ v.1) pre) hl ⟨by simp,adj_nil⟩ (fun pre v post e hi=>?_) (fun hi=>.done (.ret ?_))
 ·refine Def.bind' (F281_iff v) (fun v3 q3=>?_)
  refine Def.bindI _ (fun hc=>Def.prev e hl (by simp at hc; omega)) (fun v4 q4 _=>?_)
  refine Def.bindI (fun x=>x = IntKind.wrap .i64 (v4.1 + v4.2.1)) (fun _=>.ret rfl) (fun v5 q5 _=>?_)
  simp at q4 q5
  refine Def.ite (fun hc=>.done (.ret ⟨fun h=>(by cases h),fun hp=>?_⟩)) (fun hc=>.turn ⟨rfl,fun m hm=>?_,adj_snoc hi.2 fun u hu=>?_⟩)
  ·have e3:=q3.2 (hp.one v (by rw [e]; simp))
   subst e3
   simp at hc
   have h1:=q4 rfl hc.1
   have h2:=q5 rfl hc.1
   have:=adj_mid e hp.adj v4 h1
   omega
  ·simp at hc
   rcases List.mem_append.1 hm with hm | hm
   ·exact hi.1 m hm
   ·simp at hm; subst hm; exact q3.1 hc.1
  ·simp at hc
   obtain ⟨rfl,hc⟩:=hc
   by_cases hpos : 0 < pre.length
   ·have h1:=q4 rfl hpos
    have h2:=q5 rfl hpos
    have h3:=hc hpos
    rw [hu] at h1; cases h1
    rw [h2] at h3
    exact h3
   ·exact (last_none hpos u hu).elim
 ·simp only [decide_eq_true_eq]
  exact ⟨fun h=>⟨by omega,hi.1,hi.2⟩,fun h=>by have:=h.len; omega⟩
end Go.Fn
