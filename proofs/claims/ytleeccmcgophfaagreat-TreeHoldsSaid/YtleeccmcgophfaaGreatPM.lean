import Derived.Test.YtleeccmcgophfaaGreatPL
import Derived.Test.YtleeccmcgophfaaGreatPJ
set_option linter.all false
namespace Go.Fn
set_option linter.unusedVariables false
open Go Go.Ab Go.Tx
abbrev objs (w : D7) : List D6:=w.2.2.2.1
def FewO (o : D6) : Prop:=o.2.2.1.length ≤ 20 ∧ o.2.2.2.2.2.1.length ≤ 70 ∧ o.2.2.2.2.2.2.1.length ≤ 300 ∧ o.2.2.2.2.2.2.2.1.length ≤ 20
theorem F30_def (w : D7) : Def (F30 w) fun b=>b = true → (objs w).length ≤ 16 ∧ ∀ o ∈ objs w,FewO o:=by
 unfold F30
 refine Def.ite (fun h=>.ret (fun h=>by cases h)) (fun h=>?_)
 have hn : (objs w).length ≤ 16:=by simp at h; exact_mod_cast h
 simp only [letJ_eq,letV_eq]
 refine Def.loop (fun i : Int=>0 ≤ i ∧ i ≤ (objs w).length ∧ ∀ o ∈ (objs w).take i.toNat,FewO o) (fun i : Int=>(objs w).length - i.toNat) ⟨by omega,by omega,by simp⟩ (fun i hi=>?_)
 refine Def.ite (fun h1=>?_) (fun h1=>?_)
 ·have h1 : i < (objs w).length:=by simpa [objs] using h1
  refine Def.bind (Def.idx hi.1 h1 (fun o ho hm=>?_))
  refine Def.ite (fun h2=>.done (.ret (fun h=>by cases h))) (fun h2=>.turn ?_)
  have hw : IntKind.wrap .i64 (i + 1) = i + 1:=wrap_i64 (by omega) (by omega)
  have e : (i + 1).toNat = i.toNat + 1:=by omega
  rw [hw]
  refine ⟨⟨by omega,by omega,?_⟩,by omega⟩
  rw [e,List.take_add_one,ho]
  intro x hx
  rcases List.mem_append.1 hx with hx | hx
  ·exact hi.2.2 x hx
  ·simp at hx; subst hx
   simp at h2
   exact ⟨by omega,by omega,by omega,by omega⟩
 ·have h1 : ¬ i < (objs w).length:=by simpa [objs] using h1
  have e : i.toNat = (objs w).length:=by omega
  refine .done (.ret fun _=>⟨hn,?_⟩)
  have:=hi.2.2
  rw [e,List.take_length] at this
  exact this
def findO (l : List D6) (id : Int) : D6 × Bool:=match l.find? (fun o=>o.1 == id) with | some o=>(o,true) | none=>(Ty.zero t6,false)
theorem F43_eq (w : D7) (id : Int) (hl : (objs w).length ≤ 1000) : F43 w id = some (findO (objs w) id):=by
 refine Def.eq ?_
 unfold F43
 simp only [letJ_eq,letV_eq]
 refine Def.loop (fun i : Int=>0 ≤ i ∧ i ≤ (objs w).length ∧ (objs w).find? (fun o=>o.1 == id) = ((objs w).drop i.toNat).find? (fun o=>o.1 == id)) (fun i : Int=>(objs w).length - i.toNat) ⟨by omega,by omega,by simp⟩ (fun i hi=>?_)
 refine Def.ite (fun h1=>?_) (fun h1=>?_)
 ·have h1 : i < (objs w).length:=by simpa [objs] using h1
  have e : (i + 1).toNat = i.toNat + 1:=by omega
  refine Def.bind (Def.idx hi.1 h1 (fun o ho hm=>?_))
  have hd : (objs w).drop i.toNat = o :: (objs w).drop (i.toNat + 1):=by
   obtain ⟨hk,e⟩:=List.getElem?_eq_some_iff.1 ho
   rw [← e]; exact List.drop_eq_getElem_cons hk
  have hf:=hi.2.2
  rw [hd,List.find?_cons] at hf
  refine Def.ite (fun h2=>Def.bind (Def.idx hi.1 h1 (fun o' ho' _=>?_))) (fun h2=>.turn ?_)
  ·rw [ho] at ho'; cases ho'
   refine .done (.ret ?_)
   unfold findO
   rw [hf,h2]
  ·have hw : IntKind.wrap .i64 (i + 1) = i + 1:=wrap_i64 (by omega) (by omega)
   rw [hw]
   have h2 : (o.1 == id) = false:=by simpa using h2
   rw [h2] at hf
   exact ⟨⟨by omega,by omega,by rw [e]; exact hf⟩,by omega⟩
 ·have h1 : ¬ i < (objs w).length:=by simpa [objs] using h1
  refine .done (.ret ?_)
  have hf:=hi.2.2
  rw [List.drop_eq_nil_of_le (by omega)] at hf
  unfold findO
  rw [hf]; rfl
theorem F103_eq (l : List Int) (n : Int) (hl : l.length ≤ 1000000) : F103 l n = some (l.contains n):=by
 refine Def.eq ?_
 unfold F103
 simp only [letJ_eq]
 refine Def.for1 (l:=l) (fun pre=>n ∉ pre) (by omega) (by simp) (fun pre v post e hi=>?_) (fun hi=>?_)
 ·refine Def.ite (fun h=>.done (.ret ?_)) (fun h=>.turn ⟨rfl,?_⟩)
  ·have h : v = n:=by simpa using h
   rw [e,h]; simp
  ·have h : ¬ v = n:=by simpa using h
   simp only [List.mem_append,List.mem_singleton,not_or]
   exact ⟨hi,fun e=>h e.symm⟩
 ·refine .done (.ret ?_)
  simpa using hi
abbrev lnk (o : D6) : List Int:=o.2.2.2.2.2.1
def holders (l : List D6) (id : Int) : List Int:=(l.filter fun o=>(lnk o).contains id).map (·.1)
theorem holders_app (a b : List D6) (id : Int) : holders (a ++ b) id = holders a id ++ holders b id:=by simp [holders]
theorem holders_len (l : List D6) (id : Int) : (holders l id).length ≤ l.length:=by
 rw [holders,List.length_map]; exact List.length_filter_le _ _
theorem F40_eq (w : D7) (id : Int) (hl : (objs w).length ≤ 1000) (hk : ∀ o ∈ objs w,(lnk o).length ≤ 1000) : F40 w id = some (holders (objs w) id):=by
 refine Def.eq ?_
 unfold F40
 simp only [letJ_eq]
 refine Def.for2 (l:=objs w) (fun pre a=>a = holders pre id) (by omega) rfl (fun pre v post a e hi=>?_) (fun a hi=>?_)
 ·subst hi
  have hv : v ∈ objs w:=by rw [e]; simp
  have hn : pre.length < (objs w).length:=by rw [e]; simp
  have hg : (objs w)[pre.length]? = some v:=by rw [e]; simp
  refine Def.bind (Def.of (F103_eq (lnk v) id (by have:=hk v hv; omega)) ?_)
  refine Def.ite (fun h=>?_) (fun h=>.turn ⟨rfl,?_⟩)
  ·refine Def.bind (Def.idx (l:=objs w) (by simp only; omega) (by simp only; exact_mod_cast hn) (fun v' hv' _=>?_))
   simp only [Int.toNat_natCast] at hv'
   rw [hg] at hv'; cases hv'
   refine Def.bind (.ret ?_)
   have hh:=holders_len pre id
   refine Def.bind (Def.app (by simp only [List.length_cons,List.length_nil]; omega) ?_)
   refine .turn ⟨rfl,?_⟩
   rw [holders_app]
   simp only [holders,List.filter_cons,h,List.filter_nil,if_true,List.map_cons,List.map_nil]
  ·rw [holders_app]
   have h : (lnk v).contains id = false:=by simpa using h
   simp only [holders,List.filter_cons,h,List.filter_nil,List.map_nil,List.append_nil]
   simp
 ·subst hi
  exact .done (.ret rfl)
abbrev dat (o : D6) : List Int:=o.2.2.2.2.2.2.1
def pages (o : D6) : Int:=1 + ((dat o).length + 15) / 16
theorem F44_eq (o : D6) (h : (dat o).length ≤ 1000000) : F44 o = some (pages o):=by
 unfold F44
 have h' : (o.2.2.2.2.2.2.1).length ≤ 1000000:=h
 rw [wrap_i64 (x:=((o.2.2.2.2.2.2.1).length : Int) + 16) (by omega) (by omega),wrap_i64 (x:=((o.2.2.2.2.2.2.1).length : Int) + 16 - 1) (by omega) (by omega)]
 have e : ((o.2.2.2.2.2.2.1).length : Int) + 16 - 1 = (o.2.2.2.2.2.2.1).length + 15:=by omega
 have e2 : (((o.2.2.2.2.2.2.1).length : Int) + 15).tdiv 16 = ((o.2.2.2.2.2.2.1).length + 15) / 16:=Int.tdiv_eq_ediv_of_nonneg (by omega)
 rw [e,quoO,if_pos (by decide),e2,wrap_i64 (by omega) (by omega),Option.bind_some,wrap_i64 (by omega) (by omega)]
 rfl
abbrev quo (o : D6) : Int:=o.2.2.2.1
def usesF (l : List D6) (n : Int) (ids : List Int) : Int:=ids.foldl (fun n id=>IntKind.wrap .i64 (n + quo (findO l id).1)) n
theorem F36_eq (w : D7) (o : D6) (hl : (objs w).length ≤ 1000) (hd : (dat o).length ≤ 1000000) (hk : (lnk o).length ≤ 1000) : F36 w o = some (usesF (objs w) (pages o) (lnk o)):=by
 refine Def.eq ?_
 unfold F36
 rw [F44_eq o hd,Option.bind_some]
 simp only [letJ_eq]
 refine Def.for2 (l:=lnk o) (fun pre a=>a = usesF (objs w) (pages o) pre) (by omega) rfl (fun pre v post a e hi=>?_) (fun a hi=>?_)
 ·subst hi
  refine Def.bind (Def.of (F43_eq w v hl) ?_)
  refine .turn ⟨rfl,?_⟩
  simp only [usesF,List.foldl_append,List.foldl_cons,List.foldl_nil]
 ·subst hi
  exact .done (.ret rfl)
def climb (l : List D6) : Nat → Int → List Int → List Int
 | 0,_,_=>[]
 | k + 1,id,acc=>match holders l id with
  | []=>acc
  | d :: _=>climb l k d (acc ++ [d])
theorem F42_eq (w : D7) (id : Int) (hl : (objs w).length ≤ 1000) (hk : ∀ o ∈ objs w,(lnk o).length ≤ 1000) : F42 w id = some (climb (objs w) ((objs w).length + 1) id []):=by
 refine Def.eq ?_
 unfold F42
 simp only [letJ_eq]
 refine Def.loop (fun s : Int × List Int=>s.2.length ≤ (objs w).length + 1 ∧ climb (objs w) ((objs w).length + 1 - s.2.length) s.1 s.2 = climb (objs w) ((objs w).length + 1) id []) (fun s=>(objs w).length + 1 - s.2.length) ⟨by simp,by simp⟩ (fun s hi=>?_)
 obtain ⟨h1,h2⟩:=hi
 refine Def.ite (fun hc=>?_) (fun hc=>?_)
 ·have hc : s.2.length ≤ (objs w).length:=by simp only [decide_eq_true_eq] at hc; exact_mod_cast hc
  obtain ⟨k,hk'⟩ : ∃ k,(objs w).length + 1 - s.2.length = k + 1:=⟨(objs w).length - s.2.length,by omega⟩
  rw [hk',climb] at h2
  refine Def.bind (Def.of (F40_eq w s.1 hl hk) ?_)
  refine Def.ite (fun h=>.done (.ret ?_)) (fun h=>?_)
  ·have h : holders (objs w) s.1 = []:=by simpa using h
   rw [h] at h2; exact h2
  ·cases hh : holders (objs w) s.1 with
   | nil=>rw [hh] at h; simp at h
   | cons d r =>
    rw [hh] at h2
    refine Def.bind (Def.idx (by omega) (by simp only [List.length_cons]; omega) (fun v hv _=>?_))
    simp at hv; subst hv
    refine Def.bind (.ret (Def.bind (Def.app (by simp only [List.length_cons,List.length_nil]; omega) (.turn ?_))))
    refine ⟨⟨by simp; omega,?_⟩,by simp only [List.length_append,List.length_cons,List.length_nil]; omega⟩
    rw [← h2]
    simp only [List.length_append,List.length_cons,List.length_nil]
    rw [show (objs w).length + 1 - (s.2.length + (0 + 1)) = k from by omega]
 ·have hc : ¬ s.2.length ≤ (objs w).length:=by simp only [decide_eq_true_eq] at hc; exact_mod_cast hc
  refine .done (.ret ?_)
  rw [← h2,show (objs w).length + 1 - s.2.length = 0 from by omega]
  rfl
def above (l : List D6) (id : Int) : List Int:=climb l (l.length + 1) id []
def upB (l : List D6) (root id : Int) : Bool:=match (above l id).getLast? with | none=>id == root | some r=>r == root
theorem climb_len (l : List D6) : ∀ (k : Nat) (id : Int) (acc : List Int),(climb l k id acc).length ≤ acc.length + k
 | 0,_,_=>by simp [climb]
 | k + 1,id,acc=>by
  rw [climb]
  split
  ·omega
  ·have:=climb_len l k (by assumption) (acc ++ [by assumption])
   rename_i d _ _
   have:=climb_len l k d (acc ++ [d])
   simp only [List.length_append,List.length_cons,List.length_nil] at this
   omega
theorem F154_eq (w : D7) (id : Int) (hl : (objs w).length ≤ 1000) (hk : ∀ o ∈ objs w,(lnk o).length ≤ 1000) : F154 w id = some (upB (objs w) w.2.2.1 id):=by
 refine Def.eq ?_
 unfold F154
 refine Def.bind (Def.of (F42_eq w id hl hk) ?_)
 have hn:=climb_len (objs w) ((objs w).length + 1) id []
 unfold upB above
 generalize climb (objs w) ((objs w).length + 1) id [] = a at hn
 simp only [List.length_nil] at hn
 cases ha : a.getLast? with
 | none =>
  have : a = []:=List.getLast?_eq_none_iff.1 ha
  subst this
  refine Def.bind (Def.ite (fun h=>by simp at h) (fun _=>.ret (.ret ?_)))
  cases hb : (id == w.2.2.1) <;> simp [hb]
 | some r =>
  have hne : a ≠ []:=fun e=>by rw [e] at ha; cases ha
  have hpos : 0 < a.length:=List.length_pos_iff.2 hne
  have hw : IntKind.wrap .i64 ((a.length : Int) - 1) = (a.length : Int) - 1:=wrap_i64 (by omega) (by omega)
  have hl0 : ((a.length : Int) == 0) = false:=by simp; omega
  refine Def.bind (Def.ite (fun h=>?_) (fun h=>?_))
  ·rw [hw]
   refine Def.idx (by omega) (by omega) (fun v hv _=>.ret ?_)
   have e : ((a.length : Int) - 1).toNat = a.length - 1:=by omega
   rw [e,← List.getLast?_eq_getElem?,ha] at hv
   cases hv
   simp [hl0,hpos]
  ·exfalso
   apply h
   simp [hl0,hpos]
def placedB (l : List D6) (root : Int) (o : D6) : Bool :=
 let n:=(holders l o.1).length
 if o.1 = root then n == 0 && (o.2.1 == 2 && decide (quo o ≤ 1024))
 else if n < 1 ∨ 1 < n ∧ (o.2.2.2.2.1 = false ∨ o.2.1 = 2 ∨ o.2.1 = 4) then false
 else if o.2.1 = 2 then upB l root o.1 else true
theorem F91_eq (w : D7) (o : D6) (hl : (objs w).length ≤ 1000) (hk : ∀ o ∈ objs w,(lnk o).length ≤ 1000) : F91 w o = some (placedB (objs w) w.2.2.1 o):=by
 refine Def.eq ?_
 unfold F91
 refine Def.bind (Def.of (F40_eq w o.1 hl hk) ?_)
 unfold placedB
 simp only
 generalize (holders (objs w) o.1).length = n
 refine Def.ite (fun h=>.ret ?_) (fun h=>?_)
 ·have h : o.1 = w.2.2.1:=by simpa using h
  rw [if_pos h]
  cases h1 : ((n : Int) == 0) <;> cases h2 : (o.2.1 == 2) <;> simp_all
 ·have h : ¬ o.1 = w.2.2.1:=by simpa using h
  rw [if_neg h]
  refine Def.letV (Def.ite (fun h1=>.ret ?_) (fun h1=>?_))
  ·rw [if_pos]
   by_cases hn : n < 1
   ·exact .inl hn
   ·by_cases hn1 : 1 < n
    ·refine .inr ⟨hn1,?_⟩
     cases hf : o.2.2.2.2.1 with
     | false=>exact .inl rfl
     | true =>
      have e1 : ¬ ((n : Int) < 1):=by omega
      have e2 : (n : Int) > 1:=by omega
      simp [hf,e1,e2] at h1
      exact .inr h1
    ·have e1 : ¬ ((n : Int) < 1):=by omega
     have e2 : ¬ ((n : Int) > 1):=by omega
     simp [e1,e2] at h1
  ·have hcn : ¬ (n < 1 ∨ 1 < n ∧ (o.2.2.2.2.1 = false ∨ o.2.1 = 2 ∨ o.2.1 = 4)):=by
    rintro (hn | ⟨hn,hx⟩)
    ·have e1 : (n : Int) < 1:=by omega
     simp [e1] at h1
    ·have e1 : ¬ ((n : Int) < 1):=by omega
     have e2 : (n : Int) > 1:=by omega
     rcases hx with hx | hx | hx <;> simp [e1,e2,hx] at h1
   simp only [if_neg hcn]
   by_cases hk2 : o.2.1 = 2
   ·simp only [if_pos hk2]
    refine Def.bind (Def.ite (fun _=>Def.of (F154_eq w o.1 hl hk) (.ret ?_)) (fun h2=>?_))
    ·simp [hk2]
    ·simp [hk2] at h2
   ·simp only [if_neg hk2]
    refine Def.bind (Def.ite (fun h2=>?_) (fun _=>.ret (.ret ?_)))
    ·simp [hk2] at h2
    ·simp [hk2]
end Go.Fn
namespace Go.Fn
set_option linter.unusedVariables false
open Go Go.Ab Go.Tx
structure Whole (l : List D6) (root : Int) : Prop where
 few : l.length ≤ 16
 ids : l.Pairwise (fun a b=>a.1 < b.1)
 quo : ∀ o ∈ l,1 ≤ quo o ∧ quo o ≤ 4096
 dat : ∀ o ∈ l,(dat o).length ≤ 300
 lns : ∀ o ∈ l,(lnk o).length ≤ 70
 own : ∀ o ∈ l,o.2.1 ≠ 2 → lnk o = [] ∧ pages o ≤ Fn.quo o
 lnk : ∀ o ∈ l,(lnk o).Pairwise (· < ·)
 has : ∀ o ∈ l,∀ x ∈ Fn.lnk o,∃ y ∈ l,y.1 = x
 uses : ∀ o ∈ l,o.2.1 = 2 → usesF l (pages o) (Fn.lnk o) ≤ Fn.quo o
 top : ∃ r ∈ l,r.1 = root
 placed : ∀ o ∈ l,placedB l root o = true
def tot : List Int → Int
 | []=>0
 | a :: l=>a + tot l
theorem tot_app : ∀ a b : List Int,tot (a ++ b) = tot a + tot b
 | [],b=>by simp [tot]
 | x :: a,b=>by simp only [List.cons_append,tot,tot_app a b]; omega
theorem len_sub : ∀ (A L : List Int),A.Nodup → (∀ x ∈ A,x ∈ L) → A.length ≤ L.length
 | [],L,_,_=>by simp
 | a :: A,L,h,hs=>by
  obtain ⟨s,t,e⟩:=List.append_of_mem (hs a (by simp))
  obtain ⟨hn,h2⟩:=List.nodup_cons.1 h
  have ih:=len_sub A (s ++ t) h2 (fun x hx=>by
   have:=hs x (by simp [hx])
   rw [e] at this
   have hne : x ≠ a:=fun e=>hn (e ▸ hx)
   simp only [List.mem_append,List.mem_cons] at this ⊢
   rcases this with h | h | h
   ·exact .inl h
   ·exact absurd h hne
   ·exact .inr h)
  rw [e]
  simp only [List.length_append,List.length_cons] at ih ⊢
  omega
theorem findO_mem : ∀ {l : List D6},l.Pairwise (fun a b=>a.1 < b.1) → ∀ o ∈ l,findO l o.1 = (o,true)
 | [],_,o,h=>by cases h
 | a :: l,hp,o,h=>by
  obtain ⟨h1,h2⟩:=List.pairwise_cons.1 hp
  rcases List.mem_cons.1 h with rfl | h
  ·simp [findO]
  ·have:=h1 o h
   have hne : (a.1 == o.1) = false:=by simp; omega
   have ih:=findO_mem h2 o h
   unfold findO at ih ⊢
   rw [List.find?_cons,hne]
   exact ih
theorem findO_none {l : List D6} {id : Int} (h : ∀ o ∈ l,o.1 ≠ id) : findO l id = (Ty.zero t6,false):=by
 have : l.find? (fun o=>o.1 == id) = none:=List.find?_eq_none.2 fun o ho=>by simpa using h o ho
 unfold findO
 rw [this]
def quoF (l : List D6) (id : Int) : Int:=quo (findO l id).1
theorem quoF_bd {l : List D6} {root : Int} (h : Whole l root) (id : Int) : 0 ≤ quoF l id ∧ quoF l id ≤ 4096:=by
 by_cases hx : ∃ o ∈ l,o.1 = id
 ·obtain ⟨o,ho,rfl⟩:=hx
  have:=h.quo o ho
  rw [quoF,findO_mem h.ids o ho]
  exact ⟨by simp only; omega,this.2⟩
 ·have hx' : ∀ o ∈ l,o.1 ≠ id:=fun o ho e=>hx ⟨o,ho,e⟩
  rw [quoF,findO_none hx']
  exact ⟨by decide,by decide⟩
theorem usesF_eq {l : List D6} (hb : ∀ id,0 ≤ quoF l id ∧ quoF l id ≤ 4096) : ∀ (ids : List Int) (n : Int),0 ≤ n → n + ids.length * 4096 ≤ 4611686018427387904 → usesF l n ids = n + tot (ids.map (quoF l))
 | [],n,_,_=>by simp [usesF,tot]
 | id :: ids,n,h0,hn=>by
  have h1:=hb id
  simp only [List.length_cons] at hn
  have ih:=usesF_eq hb ids (n + quoF l id) (by omega) (by omega)
  have hw : IntKind.wrap .i64 (n + quoF l id) = n + quoF l id:=wrap_i64 (by omega) (by omega)
  unfold usesF at ih ⊢
  rw [List.foldl_cons,show n + quo (findO l id).1 = n + quoF l id from rfl,hw,ih]
  simp only [List.map_cons,tot]
  omega
def useS (l : List D6) (o : D6) : Int:=pages o + tot ((lnk o).map (quoF l))
theorem mem_holders {l : List D6} {id d : Int} : d ∈ holders l id ↔ ∃ o ∈ l,id ∈ lnk o ∧ o.1 = d:=by
 simp only [holders,List.mem_map,List.mem_filter]
 constructor
 ·rintro ⟨o,⟨h1,h2⟩,h3⟩; exact ⟨o,h1,by simpa using h2,h3⟩
 ·rintro ⟨o,h1,h2,h3⟩; exact ⟨o,⟨h1,by simpa using h2⟩,h3⟩
theorem held {l : List D6} {root : Int} (h : Whole l root) {o : D6} (ho : o ∈ l) (hr : o.1 ≠ root) : holders l o.1 ≠ []:=by
 have:=h.placed o ho
 unfold placedB at this
 simp only [if_neg hr] at this
 intro e
 rw [e] at this
 simp at this
inductive Chain (l : List D6) : Int → List Int → Prop
 | nil {id : Int} : holders l id = [] → Chain l id []
 | cons {id d : Int} {r c : List Int} : holders l id = d :: r → Chain l d c → Chain l id (d :: c)
theorem Chain.det {l : List D6} {id : Int} {c c' : List Int} (h : Chain l id c) (h' : Chain l id c') : c = c':=by
 induction h generalizing c' with
 | nil e =>
  cases h' with
  | nil=>rfl
  | cons e'=>rw [e] at e'; cases e'
 | cons e h ih =>
  cases h' with
  | nil e'=>rw [e] at e'; cases e'
  | cons e' h'=>rw [e] at e'; cases e'; rw [ih h']
theorem Chain.under {l : List D6} {id : Int} {c : List Int} (h : Chain l id c) : ∀ x ∈ c,∃ c',Chain l x c' ∧ c'.length < c.length:=by
 induction h with
 | nil=>intro x hx; cases hx
 | cons e h ih =>
  intro x hx
  rcases List.mem_cons.1 hx with rfl | hx
  ·exact ⟨_,h,by simp⟩
  ·obtain ⟨c',h1,h2⟩:=ih x hx
   exact ⟨c',h1,by simp; omega⟩
theorem Chain.nodup {l : List D6} {id : Int} {c : List Int} (h : Chain l id c) : (id :: c).Nodup:=by
 induction h with
 | nil=>simp
 | cons e h ih =>
  refine List.nodup_cons.2 ⟨fun hm=>?_,ih⟩
  have h':=Chain.cons e h
  obtain ⟨c',h1,h2⟩:=h'.under _ hm
  rw [h1.det h'] at h2
  exact Nat.lt_irrefl _ h2
theorem Chain.mem {l : List D6} {id : Int} {c : List Int} (h : Chain l id c) : ∀ x ∈ c,∃ o ∈ l,o.1 = x:=by
 induction h with
 | nil=>intro x hx; cases hx
 | cons e h ih =>
  intro x hx
  rcases List.mem_cons.1 hx with rfl | hx
  ·obtain ⟨o,ho,_,e'⟩:=mem_holders.1 (by rw [e]; exact List.mem_cons_self : x ∈ holders l _)
   exact ⟨o,ho,e'⟩
  ·exact ih x hx
theorem Chain.len {l : List D6} {o : D6} (ho : o ∈ l) {c : List Int} (h : Chain l o.1 c) : c.length + 1 ≤ l.length:=by
 have:=len_sub (o.1 :: c) (l.map (·.1)) h.nodup (by
  intro x hx
  rcases List.mem_cons.1 hx with rfl | hx
  ·exact List.mem_map.2 ⟨o,ho,rfl⟩
  ·obtain ⟨y,hy,e⟩:=h.mem x hx
   exact List.mem_map.2 ⟨y,hy,e⟩)
 simpa using this
end Go.Fn
namespace Go.Fn
set_option linter.unusedVariables false
open Go Go.Ab Go.Tx
def lowB (ks : List Int) (t : Int) : Nat:=(ks.filter fun k=>decide (k < t)).length
theorem lowB_le (ks : List Int) (t : Int) : lowB ks t ≤ ks.length:=List.length_filter_le _ _
theorem lowB_lt : ∀ {ks : List Int},ks.Pairwise (· < ·) → ∀ (t : Int) (m : Nat) (v : Int),ks[m]? = some v → (v < t ↔ m < lowB ks t)
 | [],_,t,m,v,h=>by simp at h
 | k :: ks,hp,t,m,v,h=>by
  obtain ⟨h1,h2⟩:=List.pairwise_cons.1 hp
  by_cases hk : k < t
  ·have e : lowB (k :: ks) t = lowB ks t + 1:=by simp [lowB,List.filter_cons,hk]
   rw [e]
   cases m with
   | zero=>simp at h; subst h; simp [hk]
   | succ m =>
    have:=lowB_lt h2 t m v (by simpa using h)
    rw [this]; omega
  ·have e0 : lowB (k :: ks) t = 0:=by
    have : ∀ x ∈ k :: ks,¬ x < t:=by
     intro x hx
     rcases List.mem_cons.1 hx with rfl | hx
     ·exact hk
     ·have:=h1 x hx; omega
    unfold lowB
    rw [List.filter_eq_nil_iff.2 (by intro x hx; simpa using this x hx)]
    rfl
   rw [e0]
   have hv : v ∈ k :: ks:=List.mem_of_getElem? h
   constructor
   ·intro hv'
    rcases List.mem_cons.1 hv with rfl | hx
    ·exact absurd hv' hk
    ·have:=h1 v hx; omega
   ·intro h; omega
theorem lowB_mem {ks : List Int} (hp : ks.Pairwise (· < ·)) {t v : Int} (h : ks[lowB ks t]? = some v) : t ∈ ks ↔ v = t:=by
 constructor
 ·intro hm
  obtain ⟨m,hm⟩:=List.getElem?_of_mem hm
  have h1:=lowB_lt hp t m t hm
  have h2:=lowB_lt hp t _ v h
  have h3 : ¬ v < t:=fun hc=>by have:=h2.1 hc; omega
  have h4 : ¬ m < lowB ks t:=fun hc=>by have:=h1.2 hc; omega
  by_cases he : m = lowB ks t
  ·rw [he,h] at hm; exact Option.some.inj hm
  ·exfalso
   have hlt : lowB ks t < m:=by omega
   obtain ⟨q1,q2⟩:=List.getElem?_eq_some_iff.1 h
   obtain ⟨r1,r2⟩:=List.getElem?_eq_some_iff.1 hm
   have:=List.pairwise_iff_getElem.1 hp _ _ q1 r1 hlt
   omega
 ·rintro rfl; exact List.mem_of_getElem? h
theorem lowB_end {ks : List Int} (hp : ks.Pairwise (· < ·)) {t : Int} (h : ks.length ≤ lowB ks t) : t ∉ ks:=by
 intro hm
 obtain ⟨m,hm⟩:=List.getElem?_of_mem hm
 have h1:=lowB_lt hp t m t hm
 obtain ⟨r1,r2⟩:=List.getElem?_eq_some_iff.1 hm
 have : t < t:=h1.2 (by omega)
 omega
end Go.Fn
namespace Go.Fn
set_option linter.unusedVariables false
open Go Go.Ab Go.Tx
abbrev thr (o : D6) : D4:=o.2.2.2.2.2.2.2.2.1
abbrev gat (o : D6) : D5:=o.2.2.2.2.2.2.2.2.2.1
abbrev big : Nat:=9223372036854775807
structure OkO (o : D6) : Prop where
 lab : o.2.2.1.length ≤ big
 lnk : (lnk o).length ≤ big
 dat : (dat o).length ≤ big
 mps : o.2.2.2.2.2.2.2.1.length ≤ big
 clr : (thr o).2.2.1.length ≤ big
 alr : (thr o).2.2.2.2.2.2.2.2.1.length ≤ big
 lbs : ∀ i,((thr o).2.2.2.2.2.2.2.2.2.2.1 i).length ≤ big
 gra : (gat o).1.length ≤ big
 gcl : (gat o).2.1.length ≤ big
 inn : o.2.2.2.2.2.2.2.2.2.2.1.length ≤ big
 out : o.2.2.2.2.2.2.2.2.2.2.2.1.length ≤ big
structure FitL (l : List D0) : Prop where
 rise : l.Pairwise (fun a b=>a.1 < b.1)
 lev : ∀ p ∈ l,0 ≤ p.2.1 ∧ p.2.1 ≤ 5 ∧ p.2.1 ≠ 2
theorem F155_def (l : List D0) (hl : l.length ≤ big) : Def (F155 l) fun b=>b = true → FitL l:=by
 unfold F155
 simp only [letJ_eq,F218,Option.bind_some]
 refine Def.for1 (l:=l) (fun pre=>FitL pre) hl ⟨List.Pairwise.nil,by simp⟩ (fun pre v post e hi=>?_) (fun hi=>.done (.ret fun _=>hi))
 refine Def.bindI _ (fun _=>Def.at e) (fun v4 q4 _=>?_)
 refine Def.bindI _ (fun hc=>Def.prev e hl (by simp at hc; omega)) (fun v5 q5 _=>?_)
 refine Def.bindI _ (fun _=>Def.at e) (fun v6 q6 _=>?_)
 refine Def.ite (fun _=>.done (.ret (fun h=>by cases h))) (fun hc=>.turn ⟨rfl,?_⟩)
 simp at hc q4 q5 q6
 obtain ⟨⟨⟨h0,h5⟩,h2⟩,hp⟩:=hc
 have e4:=q4 h0 h5
 subst e4
 refine ⟨?_,?_⟩
 ·rw [List.pairwise_append]
  refine ⟨hi.rise,by simp,fun x hx y hy=>?_⟩
  simp only [List.mem_singleton] at hy; subst hy
  have hpos : 0 < pre.length:=List.length_pos_of_mem hx
  have hu:=q5 h0 h5 h2 hpos
  have hv:=q6 h0 h5 h2 hpos
  have hlt:=hp hpos
  rw [hv] at hlt
  have hr:=hi.rise
  obtain ⟨ys,rfl⟩:=List.getLast?_eq_some_iff.1 hu
  rw [List.pairwise_append] at hr
  rcases List.mem_append.1 hx with hx | hx
  ·have:=hr.2.2 x hx v5 (by simp); omega
  ·simp at hx; subst hx; omega
 ·intro p hp'
  rcases List.mem_append.1 hp' with hp' | hp'
  ·exact hi.lev p hp'
  ·simp at hp'; subst hp'; exact ⟨h0,h5,h2⟩
theorem F94_def (l : List D0) (hl : l.length ≤ big) : Def (F94 l) fun b=>b = true → l.length ≤ 16 ∧ FitL l:=by
 unfold F94
 simp only [letJ_eq]
 refine Def.for1 (l:=l) (fun _=>True) hl trivial (fun pre v post e _=>?_) (fun _=>?_)
 ·exact Def.ite (fun _=>.done (.ret (fun h=>by cases h))) (fun _=>.turn ⟨rfl,trivial⟩)
 ·refine Def.done (Def.bindI _ (fun _=>F155_def l hl) (fun b q _=>.ret (fun h=>?_)))
  by_cases h' : ((l.length : Nat) : Int) ≤ 16
  ·rw [if_pos (by simpa using h')] at h
   exact ⟨by omega,q (by simpa using h') h⟩
  ·rw [if_neg (by simpa using h')] at h; cases h
theorem same_def {α : Type} {a b : List α} {c : Int → α → α → Bool} (hl : b.length ≤ big) : Def (if (((List.length a : Nat) : Int) != ((List.length b : Nat) : Int)) = true then some false else
  whileO (σ:=Int) (ρ:=Bool) (fun s=>if (decide (s < ((List.length a : Nat) : Int))) = true then Option.bind (idxO a s) fun v=>Option.bind (idxO b s) fun u=>if c s v u = true then done (some false) else turn (IntKind.wrap .i64 (s + (1 : Int))) else done (some true)) (0 : Int))
  fun r=>r = true → (∀ s v u,c s v u = false → v = u) → a = b:=by
 refine Def.ite (fun _=>.ret (fun h=>by cases h)) (fun h=>?_)
 have hn : a.length = b.length:=by simp at h; exact_mod_cast h
 refine Def.for1 (l:=a) (fun pre=>(∀ s v u,c s v u = false → v = u) → b.take pre.length = pre) (by rw [hn]; exact hl) (by simp) (fun pre v post e hi=>?_) (fun hi=>?_)
 ·have hlt : pre.length < b.length:=by rw [← hn,e]; simp
  refine Def.bind (Def.idx (by omega) (by exact_mod_cast hlt) (fun u hu _=>?_))
  refine Def.ite (fun _=>.done (.ret (fun h=>by cases h))) (fun hc=>.turn ⟨rfl,fun hh=>?_⟩)
  have hvu:=hh _ _ _ (by simpa using hc)
  simp only [Int.toNat_natCast] at hu
  rw [List.length_append,List.length_singleton,List.take_add_one,hi hh,hu,hvu]; rfl
 ·refine .done (.ret (fun _ hh=>?_))
  have:=hi hh
  rw [hn,List.take_length] at this
  exact this.symm
theorem F128_def (a b : List D0) (hl : b.length ≤ big) : Def (F128 a b) fun _=>True:=by
 unfold F128
 simp only [letJ_eq]
 exact (same_def (c:=fun _ v u=>!(eqK (.prod (.int .u64) (.prod (.int .i64) .unit)) v u)) hl).mono fun _ _=>trivial
theorem F139_def (a b : List Int) (hl : b.length ≤ big) : Def (F139 a b) fun r=>r = true → a = b:=by
 unfold F139
 simp only [letJ_eq]
 refine (same_def (c:=fun _ v u=>v != u) hl).mono fun r h hr=>h hr fun _ v u h=>?_
 simpa using h
theorem F140_def (a b : List D1) (hl : b.length ≤ big) : Def (F140 a b) fun _=>True:=by
 unfold F140
 simp only [letJ_eq]
 exact (same_def (c:=fun _ v u=>!(eqK (.prod (.int .i64) (.prod (.int .i64) (.prod (.int .u64) (.prod (.int .u64) (.prod (.int .i64) (.prod .bool .unit)))))) v u)) hl).mono fun _ _=>trivial
theorem guard4 {i : Int} {Q : Unit → Prop} (h0 : 0 ≤ i) (h1 : i < (4 : Nat)) (h : Q ()) : Def (guardO (if (decide ((0 : Int) ≤ i)) = true then (decide (i < (4 : Int))) else false)) Q :=
 have h4 : i < 4:=by omega
 Def.guard (by simp [h0,h4]) h
theorem F141_def (a b : D4) (h1 : b.2.2.1.length ≤ big) (h2 : b.2.2.2.2.2.2.2.2.1.length ≤ big) (h3 : ∀ i,(b.2.2.2.2.2.2.2.2.2.2.1 i).length ≤ big) : Def (F141 a b) fun _=>True:=by
 unfold F141
 simp only [letJ_eq,letV_eq]
 refine Def.times (n:=4) (by omega) (fun i h0 h4=>?_) ?_
 ·refine Def.bind (guard4 h0 h4 (Def.bind (Def.aidx h0 h4 fun k=>Def.bind (guard4 h0 h4 (Def.bind (Def.aidx h0 h4 fun k'=>?_))))))
  refine Def.bind' (R:=fun _=>True) (F128_def _ _ (h3 _)) (fun _ _=>?_)
  exact Def.ite (fun _=>.done (.ret trivial)) (fun _=>.turn rfl)
 ·refine Def.done (Def.bindI (fun _=>True) (fun _=>F128_def _ _ h1) (fun _ _ _=>?_))
  exact Def.bindI (fun _=>True) (fun _=>(F139_def _ _ h2).mono fun _ _=>trivial) (fun _ _ _=>.ret trivial)
theorem F142_def (a b : D5) (h1 : b.1.length ≤ big) (h2 : b.2.1.length ≤ big) : Def (F142 a b) fun _=>True:=by
 unfold F142
 simp only [letV_eq]
 refine Def.bind' (R:=fun _=>True) (F128_def _ _ h1) (fun _ _=>?_)
 exact Def.bindI (fun _=>True) (fun _=>F128_def _ _ h2) (fun _ _ _=>.ret trivial)
theorem F83_def (a b : D6) (h : OkO b) : Def (F83 a b) fun r=>r = true → lnk a = lnk b ∧ dat a = dat b:=by
 unfold F83
 simp only [letV_eq]
 refine Def.bindI (fun _=>True) (fun _=>F128_def _ _ h.lab) (fun _ _ _=>?_)
 refine Def.ite (fun _=>.ret (fun h=>by cases h)) (fun _=>?_)
 refine Def.bind' (F139_def _ _ h.lnk) (fun v4 q4=>?_)
 refine Def.bindI _ (fun _=>F139_def _ _ h.dat) (fun v5 q5 _=>?_)
 refine Def.bindI (fun _=>True) (fun _=>F140_def _ _ h.mps) (fun v6 _ _=>?_)
 refine Def.bindI (fun _=>True) (fun _=>F141_def _ _ h.clr h.alr h.lbs) (fun v7 _ _=>?_)
 refine Def.bindI (fun _=>True) (fun _=>F142_def _ _ h.gra h.gcl) (fun v8 _ _=>?_)
 refine Def.bindI (fun _=>True) (fun _=>(F139_def _ _ h.inn).mono fun _ _=>trivial) (fun v9 _ _=>?_)
 refine Def.bindI (fun _=>True) (fun _=>(F139_def _ _ h.out).mono fun _ _=>trivial) (fun v10 _ _=>.ret (fun hr=>?_))
 cases v4 with
 | false=>simp at hr
 | true =>
  cases v5 with
  | false=>simp at hr
  | true=>exact ⟨q4 rfl,q5 (by simp) rfl⟩
theorem F95_def (o : D6) (h : OkO o) : Def (F95 o) fun r=>r = true → (o.2.1 ≠ 2 → lnk o = []) ∧ (o.2.1 ≠ 1 → dat o = []):=by
 have key : ∀ x : D6,((o.2.1 ≠ 2 → lnk x = []) ∧ (o.2.1 ≠ 1 → dat x = [])) → Def (Option.bind (F83 x o) fun v2=>some v2) fun r=>r = true → (o.2.1 ≠ 2 → lnk o = []) ∧ (o.2.1 ≠ 1 → dat o = []):=by
  intro x hx
  refine Def.bind' (F83_def x o h) (fun v q=>.ret (fun hv=>?_))
  obtain ⟨e1,e2⟩:=q hv
  rw [← e1,← e2]; exact hx
 unfold F95
 simp only [letJ_eq]
 refine Def.ite (fun hk=>?_) (fun hk=>Def.ite (fun hk2=>?_) (fun hk2=>Def.ite (fun hk3=>?_) (fun hk3=>Def.ite (fun hk4=>?_) (fun hk4=>Def.ite (fun hk5=>?_) (fun hk5=>Def.ite (fun hk6=>?_) (fun hk6=>?_))))))
 all_goals refine key _ ⟨fun hn=>?_,fun hn=>?_⟩
 all_goals first | rfl | (simp_all)
theorem F96_def (l : List D0) (hl : l.length ≤ 1000000) : Def (F96 l) fun _=>True:=by
 unfold F96
 simp only [letJ_eq]
 refine Def.for2 (l:=l) (fun pre a=>a.length ≤ pre.length) (by omega) (by simp) (fun pre v post a e hi=>?_) (fun a hi=>.done (.ret trivial))
 have hlt : pre.length < l.length:=by rw [e]; simp
 refine Def.ite (fun h=>?_) (fun h=>.turn ⟨rfl,by simp; omega⟩)
 refine Def.bind' (R:=fun _=>True) ((Def.at e).mono fun _ _=>trivial) (fun u _=>Def.bind (.ret (Def.bind (Def.app (by simp only [List.length_cons,List.length_nil]; omega) (.turn ⟨rfl,?_⟩)))))
 simp only [List.length_append,List.length_cons,List.length_nil]; omega
theorem F97_def (l : List Int) (hl : l.length ≤ big) : Def (F97 l) fun b=>b = true → l.Pairwise (· < ·):=by
 unfold F97
 simp only [letJ_eq,F93,Option.bind_some]
 refine Def.for1 (l:=l) (fun pre=>pre.Pairwise (· < ·)) hl List.Pairwise.nil (fun pre v post e hi=>?_) (fun hi=>.done (.ret fun _=>hi))
 refine Def.bindI _ (fun hc=>Def.prev e hl (by simp at hc; omega)) (fun u hu _=>?_)
 refine Def.bindI _ (fun hc=>Def.at e) (fun v' hv _=>?_)
 refine Def.ite (fun _=>.done (.ret (fun h=>by cases h))) (fun hc=>.turn ⟨rfl,?_⟩)
 rw [List.pairwise_append]
 refine ⟨hi,by simp,fun x hx y hy=>?_⟩
 simp only [List.mem_singleton] at hy; subst hy
 have h0 : 0 < pre.length:=List.length_pos_of_mem hx
 simp [h0] at hc hu hv
 obtain ⟨hc1,hc2⟩:=hc
 have hu:=hu hc1.1 hc1.2
 have hv:=hv hc1.1 hc1.2
 obtain ⟨ys,rfl⟩:=List.getLast?_eq_some_iff.1 hu
 rw [List.pairwise_append] at hi
 rcases List.mem_append.1 hx with hx | hx
 ·have:=hi.2.2 x hx u (by simp); omega
 ·simp at hx; omega
theorem F98_def (l : List D1) : Def (F98 l) fun _=>True:=by
 unfold F98
 refine Def.ite (fun _=>.ret trivial) (fun hn=>?_)
 simp only [letJ_eq,letV_eq,F156,Option.bind_some]
 have hl : l.length ≤ big:=by simp at hn; unfold big; omega
 refine Def.for1 (l:=l) (fun _=>True) hl trivial (fun pre v post e _=>?_) (fun _=>.done (.ret trivial))
 refine Def.bindI (fun _=>True) (fun hc=>(Def.prev e hl (by simp at hc; omega)).mono fun _ _=>trivial) (fun _ _ _=>?_)
 refine Def.bindI (fun _=>True) (fun hc=>(Def.prev e hl (by simp at hc; omega)).mono fun _ _=>trivial) (fun _ _ _=>?_)
 refine Def.bindI (fun _=>True) (fun _=>(Def.at e).mono fun _ _=>trivial) (fun _ _ _=>?_)
 exact Def.ite (fun _=>.done (.ret trivial)) (fun _=>.turn ⟨rfl,trivial⟩)
theorem F159_def (l : List D0) (c : Int) (hl : l.length ≤ big) : Def (F159 l c) fun _=>True:=by
 unfold F159
 simp only [letJ_eq]
 refine Def.for1 (l:=l) (fun _=>True) hl trivial (fun pre v post e _=>?_) (fun _=>.done (.ret trivial))
 refine Def.ite (fun _=>Def.bind' (R:=fun _=>True) ((Def.at e).mono fun _ _=>trivial) (fun _ _=>.done (.ret trivial))) (fun _=>.turn ⟨rfl,trivial⟩)
theorem F219_def (a : Int) : Def (F219 a) fun _=>True:=by
 unfold F219
 exact Def.ite (fun _=>.ret trivial) (fun _=>.ret trivial)
theorem F158_def (a b : Int) : Def (F158 a b) fun _=>True:=by
 unfold F158
 exact Def.bind' (F219_def _) (fun _ _=>Def.bind' (F219_def _) (fun _ _=>.ret trivial))
theorem F100_def (a b : List D0) (ha : a.length ≤ big) (hb : b.length ≤ big) : Def (F100 a b) fun _=>True:=by
 unfold F100
 simp only [letJ_eq]
 refine Def.for1 (l:=a) (fun _=>True) ha trivial (fun pre v post e _=>?_) (fun _=>.done ?_)
 ·refine Def.bind' (R:=fun _=>True) ((Def.at e).mono fun _ _=>trivial) (fun _ _=>Def.bind' (F159_def _ _ hb) (fun _ _=>Def.bind' (F158_def _ _) (fun _ _=>?_)))
  exact Def.ite (fun _=>.done (.ret trivial)) (fun _=>.turn ⟨rfl,trivial⟩)
 ·refine Def.for1 (l:=b) (fun _=>True) hb trivial (fun pre v post e _=>?_) (fun _=>.done (.ret trivial))
  refine Def.bind' (F159_def _ _ ha) (fun _ _=>Def.bind' (R:=fun _=>True) ((Def.at e).mono fun _ _=>trivial) (fun _ _=>Def.bind' (F158_def _ _) (fun _ _=>?_)))
  exact Def.ite (fun _=>.done (.ret trivial)) (fun _=>.turn ⟨rfl,trivial⟩)
theorem F99_def (l : List D0) (t : D4) (hl : l.length ≤ big) (h1 : t.2.2.1.length ≤ big) (h3 : ∀ i,(t.2.2.2.2.2.2.2.2.2.2.1 i).length ≤ big) : Def (F99 l t) fun _=>True:=by
 unfold F99
 simp only [letJ_eq,letV_eq]
 refine Def.times (n:=4) (by omega) (fun i h0 h4=>?_) ?_
 ·refine Def.bind (guard4 h0 h4 (Def.bind (Def.aidx h0 h4 fun k=>Def.bind' (F94_def _ (h3 k)) (fun _ _=>?_))))
  exact Def.ite (fun _=>.done (.ret trivial)) (fun _=>.turn rfl)
 ·refine Def.done (Def.ite (fun _=>.ret trivial) (fun _=>Def.bind' (F94_def _ h1) (fun _ _=>?_)))
  refine Def.bindI (fun _=>True) (fun _=>F100_def _ _ hl h1) (fun _ _ _=>?_)
  exact Def.bindI (fun _=>True) (fun _=>.ret trivial) (fun _ _ _=>.ret trivial)
structure Snd6 (o : D6) : Prop where
 id : 1 ≤ o.1 ∧ o.1 ≤ 2305843009213693952
 kind : 1 ≤ o.2.1 ∧ o.2.1 ≤ 6
 lab : o.2.2.1.length ≤ 16
 fit : FitL o.2.2.1
 quo : 1 ≤ quo o ∧ quo o ≤ 4096
 own : o.2.1 ≠ 2 → lnk o = []
 dat : o.2.1 ≠ 1 → dat o = []
 seg : o.2.1 = 1 → ((Fn.dat o).length : Int) ≤ 16 * (Fn.quo o - 1)
 lns : (Fn.lnk o).length ≤ 64
 lnk : (Fn.lnk o).Pairwise (· < ·)
theorem F34_def (o : D6) (h : OkO o) : Def (F34 o) fun b=>b = true → Snd6 o:=by
 unfold F34
 simp only [F93,Option.bind_some,letV_eq,letJ_eq]
 refine Def.bindI _ (fun _=>F94_def _ h.lab) (fun v2 q2 _=>?_)
 refine Def.bindI _ (fun _=>F95_def o h) (fun v4 q4 _=>?_)
 refine Def.ite (fun _=>.ret (fun h=>by cases h)) (fun hc=>?_)
 simp at hc
 obtain ⟨⟨⟨⟨⟨⟨hid,hk1⟩,hk2⟩,hv2⟩,hq1⟩,hq2⟩,hv4⟩:=hc
 obtain ⟨hlab,hfit⟩:=q2 (by simp [hid,hk1,hk2]) hv2
 obtain ⟨ho,hd⟩:=q4 (by simp [hid,hk1,hk2,hv2,hq1,hq2]) hv4
 have mk : (o.2.1 = 1 → ((Fn.dat o).length : Int) ≤ 16 * (Fn.quo o - 1)) → (o.2.1 = 2 → (Fn.lnk o).length ≤ 64 ∧ (Fn.lnk o).Pairwise (· < ·)) → Snd6 o:=fun h1 h2=>{
  id:=hid,kind:=⟨hk1,hk2⟩,lab:=hlab,fit:=hfit,quo:=⟨hq1,hq2⟩,own:=ho,dat:=hd,seg:=h1
  lns:=by
   by_cases e : o.2.1 = 2
   ·exact (h2 e).1
   ·rw [ho e]; simp
  lnk:=by
   by_cases e : o.2.1 = 2
   ·exact (h2 e).2
   ·rw [ho e]; exact List.Pairwise.nil }
 refine Def.bindI (fun _=>True) (fun _=>F96_def _ (by omega)) (fun v5 _ _=>?_)
 refine Def.ite (fun _=>.ret (fun h=>by cases h)) (fun _=>?_)
 refine Def.ite (fun e1=>.ret (fun hb=>?_)) (fun e1=>?_)
 ·have e1 : o.2.1 = 1:=by simpa using e1
  refine mk (fun _=>?_) (fun e=>by omega)
  have hq : quo o ≤ 4096:=hq2
  have hq' : 1 ≤ quo o:=hq1
  rw [wrap_i64 (x:=o.2.2.2.1 - 1) (by simp only [quo] at hq'; omega) (by simp only [quo] at hq; omega),wrap_i64 (by simp only [quo] at hq'; omega) (by simp only [quo] at hq; omega)] at hb
  simpa using hb
 have e1 : ¬ o.2.1 = 1:=by simpa using e1
 refine Def.ite (fun e2=>?_) (fun e2=>?_)
 ·refine Def.bindI _ (fun _=>F97_def _ h.lnk) (fun v6 q6 _=>.ret (fun hb=>?_))
  refine mk (fun e=>absurd e e1) (fun _=>?_)
  by_cases hn : ((o.2.2.2.2.2.1.length : Nat) : Int) ≤ 64
  ·refine ⟨by simp only [Fn.lnk]; omega,q6 (by simpa using hn) ?_⟩
   rw [if_pos (by simpa using hn)] at hb; exact hb
  ·rw [if_neg (by simpa using hn)] at hb; cases hb
 have e2 : ¬ o.2.1 = 2:=by simpa using e2
 have done : ∀ b : Bool,b = true → Snd6 o:=fun _ _=>mk (fun e=>absurd e e1) (fun e=>absurd e e2)
 refine Def.ite (fun _=>Def.bind' (F98_def _) (fun b _=>.ret (done _))) (fun _=>?_)
 refine Def.ite (fun _=>Def.bind' (F99_def _ _ h.lab h.clr h.lbs) (fun b _=>.ret (done _))) (fun _=>?_)
 refine Def.ite (fun _=>?_) (fun _=>.ret (done _))
 refine Def.bind' (F94_def _ h.gra) (fun b _=>Def.bindI (fun _=>True) (fun _=>(F94_def _ h.gcl).mono fun _ _=>trivial) (fun _ _ _=>?_))
 exact Def.bindI (fun _=>True) (fun _=>F100_def _ _ h.gra h.gcl) (fun _ _ _=>.ret (done _))
theorem F13_def (w : D7) (hn : (objs w).length ≤ big) (h : ∀ o ∈ objs w,OkO o) : Def (F13 w) fun b=>b = true → (objs w).Pairwise (fun a b=>a.1 < b.1) ∧ ∀ o ∈ objs w,Snd6 o:=by
 unfold F13
 refine Def.ite (fun _=>.ret (fun h=>by cases h)) (fun _=>?_)
 simp only [letJ_eq]
 refine Def.for1 (l:=objs w) (fun pre=>pre.Pairwise (fun a b=>a.1 < b.1) ∧ ∀ o ∈ pre,Snd6 o) hn ⟨List.Pairwise.nil,by simp⟩ (fun pre v post e hi=>?_) (fun hi=>.done (.ret fun _=>hi))
 obtain ⟨hi,hs⟩:=hi
 have hv : v ∈ objs w:=by rw [e]; simp
 refine Def.bind' (F34_def v (h v hv)) (fun v3 q3=>?_)
 refine Def.bindI _ (fun hc=>Def.prev e hn (by simp at hc; omega)) (fun u hu _=>?_)
 refine Def.bindI _ (fun hc=>Def.at e) (fun v' hv' _=>?_)
 refine Def.ite (fun _=>.done (.ret (fun h=>by cases h))) (fun hc=>.turn ⟨rfl,?_,?_⟩)
 ·rw [List.pairwise_append]
  refine ⟨hi,by simp,fun x hx y hy=>?_⟩
  simp only [List.mem_singleton] at hy; subst hy
  have h0 : 0 < pre.length:=List.length_pos_of_mem hx
  simp [h0] at hc hu hv'
  have hu:=hu hc.1
  have hv:=hv' hc.1
  have hc2:=hc.2
  rw [hv] at hc2
  obtain ⟨ys,rfl⟩:=List.getLast?_eq_some_iff.1 hu
  rw [List.pairwise_append] at hi
  rcases List.mem_append.1 hx with hx | hx
  ·have:=hi.2.2 x hx u (by simp); omega
  ·simp at hx; subst hx; omega
 ·intro o ho
  rcases List.mem_append.1 ho with ho | ho
  ·exact hs o ho
  ·simp at ho; subst ho
   refine q3 ?_
   simp at hc; exact hc.1
end Go.Fn
namespace Go.Fn
set_option linter.unusedVariables false
open Go Go.Ab Go.Tx
theorem F217_def (l : List D0) (hl : l.length ≤ 1000) : Def (F217 l) fun r=>r.length ≤ l.length:=by
 unfold F217
 simp only [letJ_eq]
 refine Def.for2 (l:=l) (fun pre a=>a.length ≤ pre.length) (by omega) (by simp) (fun pre v post a e hi=>?_) (fun a hi=>.done (.ret hi))
 have hlt : pre.length < l.length:=by rw [e]; simp
 refine Def.bind' (R:=fun _=>True) ((Def.at e).mono fun _ _=>trivial) (fun u _=>?_)
 have h271 : ∀ n,Def (F271 n) fun _=>True:=fun n=>by
  unfold F271
  exact Def.bind' (F219_def _) (fun _ _=>Def.ite (fun _=>.ret trivial) (fun _=>Def.bind' (F219_def _) (fun _ _=>.ret trivial)))
 refine Def.bind' (h271 _) (fun _ _=>Def.bind (.ret (Def.bind (Def.app (by simp only [List.length_cons,List.length_nil]; omega) (.turn ⟨rfl,?_⟩)))))
 simp only [List.length_append,List.length_cons,List.length_nil]; omega
theorem F270_def (a b : Int) : Def (F270 a b) fun _=>True:=by
 unfold F270
 refine Def.bind' (F219_def _) (fun _ _=>Def.bind' (F219_def _) (fun _ _=>?_))
 exact Def.ite (fun _=>Def.bind' (F219_def _) (fun _ _=>.ret trivial)) (fun _=>Def.bind' (F219_def _) (fun _ _=>.ret trivial))
theorem F269_def (l : List D0) (c n : Int) (hl : l.length ≤ 1000) : Def (F269 l c n) fun r=>r.length ≤ l.length + 1:=by
 unfold F269
 simp only [letJ_eq]
 refine Def.forB (l:=l) (fun s : List D0 × Bool × Int=>s.2.2) (fun pre s=>s.1.length ≤ pre.length + (if s.2.1 = true then 1 else 0)) (by omega) rfl (by simp) (fun pre v post s e hs hi=>?_) (fun s hs hi=>?_)
 ·have hlt : pre.length < l.length:=by rw [e]; simp
  have hat : ∀ Q : D0 → Prop,Q v → Def (idxO l s.2.2) Q:=fun Q h=>by rw [hs]; exact (Def.at e).mono fun _ h'=>by rw [h']; exact h
  have step : ∀ (a : List D0) (b : Bool),a.length ≤ pre.length + (if b = true then 1 else 0) → Def (Option.bind (idxO l s.2.2) fun v9=>if (v9.1 != c) = true then Option.bind (idxO l s.2.2) fun v10=>Option.bind (some [v10]) fun v11=>Option.bind (appO 16 a v11) fun v12=>turn (v12,b,IntKind.wrap .i64 (s.2.2 + 1)) else turn (a,b,IntKind.wrap .i64 (s.2.2 + 1))) (fun r : (List D0 × Bool × Int) ⊕ List D0=>match r with | .inl s'=>s'.2.2 = IntKind.wrap .i64 ((pre.length : Int) + 1) ∧ s'.1.length ≤ (pre ++ [v]).length + (if s'.2.1 = true then 1 else 0) | .inr r=>r.length ≤ l.length + 1):=by
   intro a b ha
   have hb1 : (if b = true then 1 else 0) ≤ 1:=by split <;> omega
   refine Def.bind (hat _ (Def.ite (fun _=>Def.bind (hat _ (Def.bind (.ret (Def.bind (Def.app (by simp only [List.length_cons,List.length_nil]; omega) (.turn ⟨by rw [hs],?_⟩)))))) ) (fun _=>.turn ⟨by rw [hs],?_⟩)))
   ·simp only [List.length_append,List.length_cons,List.length_nil]; omega
   ·simp only [List.length_append,List.length_cons,List.length_nil]; omega
  refine Def.bindI (fun _=>True) (fun _=>hat _ trivial) (fun v6 _ _=>?_)
  refine Def.ite (fun hc=>?_) (fun hc=>(step _ _ hi).mono fun r hr=>by cases r <;> exact hr)
  have hf : s.2.1 = false:=by
   cases hq : s.2.1 with
   | false=>rfl
   | true=>rw [hq] at hc; simp at hc
  rw [hf] at hi
  refine Def.bind (.ret (Def.bind (Def.app (by simp only [List.length_cons,List.length_nil]; simp at hi; omega) ((step _ _ ?_).mono fun r hr=>by cases r <;> exact hr))))
  simp only [List.length_append,List.length_cons,List.length_nil]
  simp at hi ⊢; omega
 ·refine .done (Def.ite (fun hc=>?_) (fun hc=>.ret ?_))
  ·have hf : s.2.1 = false:=by simpa using hc
   rw [hf] at hi
   simp at hi
   refine Def.bind (.ret (Def.bind (Def.app (by simp only [List.length_cons,List.length_nil]; omega) (.ret ?_))))
   simp only [List.length_append,List.length_cons,List.length_nil]; omega
  ·have hb1 : (if s.2.1 = true then 1 else 0) ≤ 1:=by split <;> omega
   omega
theorem F216_def (a : List D0) (ha : a.length ≤ 100) : Def (F216 a []) fun r=>r.length ≤ 2 * a.length:=by
 unfold F216
 simp only [letJ_eq]
 refine Def.for2 (l:=a) (fun pre s=>s.length ≤ a.length + pre.length) (by omega) (by simp) (fun pre v post s e hi=>?_) (fun s hi=>.done ?_)
 ·have hlt : pre.length < a.length:=by rw [e]; simp
  refine Def.bind' (R:=fun _=>True) ((Def.at e).mono fun _ _=>trivial) (fun _ _=>Def.bind' (R:=fun _=>True) ((Def.at e).mono fun _ _=>trivial) (fun _ _=>?_))
  refine Def.bind' (F159_def _ _ (by simp)) (fun _ _=>Def.bind' (F270_def _ _) (fun _ _=>Def.bind' (F269_def _ _ _ (by simp only; omega)) (fun r hr=>.turn ⟨rfl,?_⟩)))
  simp only [List.length_append,List.length_cons,List.length_nil] at hr ⊢; omega
 ·refine Def.for2 (l:=([] : List D0)) (fun pre x=>x.length ≤ 2 * a.length) (by simp) (by simp only; omega) (fun pre v post s e hi=>by cases pre <;> cases e) (fun s hi=>.done (.ret hi))
theorem F153_def (d o : List D0) (hd : d.length ≤ 100) (ho : o.length ≤ 100) : Def (F153 d o) fun _=>True:=by
 unfold F153
 refine Def.bind' (F217_def _ (by omega)) (fun r hr=>Def.bind' (F216_def _ (by omega)) (fun r' hr'=>Def.bind' (F100_def _ _ (by unfold big; omega) (by unfold big; omega)) (fun _ _=>.ret trivial)))
theorem findO_of {l : List D6} {id : Int} (h : (findO l id).2 = true) : (findO l id).1 ∈ l ∧ (findO l id).1.1 = id:=by
 unfold findO at h ⊢
 cases hf : l.find? (fun o=>o.1 == id) with
 | none=>rw [hf] at h; cases h
 | some o =>
  have:=List.find?_some hf
  exact ⟨List.mem_of_find?_eq_some hf,by simpa using this⟩
theorem F90_def (w : D7) (d : D6) (hn : (objs w).length ≤ 1000) (hs : ∀ o ∈ objs w,o.2.2.1.length ≤ 16) (hd : d.2.2.1.length ≤ 16) (hk : (lnk d).length ≤ 1000) (hdat : (dat d).length ≤ 1000000) : Def (F90 w d) fun b=>b = true → (∀ x ∈ lnk d,∃ y ∈ objs w,y.1 = x) ∧ (d.2.1 = 2 → usesF (objs w) (pages d) (lnk d) ≤ quo d):=by
 unfold F90
 simp only [letJ_eq]
 refine Def.for1 (l:=lnk d) (fun pre=>∀ x ∈ pre,∃ y ∈ objs w,y.1 = x) (by omega) (by simp) (fun pre v post e hi=>?_) (fun hi=>.done ?_)
 ·refine Def.bind (Def.of (F43_eq w v hn) ?_)
  refine Def.bindI (fun _=>True) (fun hc=>F153_def _ _ (by omega) ?_) (fun v5 _ _=>?_)
  ·have:=hs _ (findO_of (by simpa using hc)).1; omega
  ·refine Def.ite (fun _=>.done (.ret (fun h=>by cases h))) (fun hc=>.turn ⟨rfl,fun x hx=>?_⟩)
   rcases List.mem_append.1 hx with hx | hx
   ·exact hi x hx
   ·simp only [List.mem_singleton] at hx
    subst hx
    simp at hc
    exact ⟨_,findO_of hc.1⟩
 ·refine Def.bindI (fun v=>v = usesF (objs w) (pages d) (lnk d)) (fun _=>Def.of (F36_eq w d hn hdat hk) rfl) (fun v2 q2 _=>.ret (fun hb=>⟨hi,fun e=>?_⟩))
  have q:=q2 (by simp [e])
  simp [e] at hb
  rw [← q]; exact hb
theorem F231_def (a b c : Int) : Def (F231 a b c) fun _=>True:=by
 unfold F231 F277
 refine Def.bind' (R:=fun _=>True) (Def.bind (Def.shr (by decide) fun _=>Def.bind (Def.shr (by decide) fun _=>Def.bind (Def.shr (by decide) fun _=>.ret trivial)))) (fun _ _=>Def.bind (Def.shr (by decide) fun _=>.ret trivial))
theorem F185_def (a b : Int) : Def (F185 a b) fun _=>True:=by
 unfold F185
 simp only [letJ_eq]
 refine Def.bind (Def.shr (by decide) fun v2=>?_)
 refine Def.loop (fun s : Int × Int × Int=>0 ≤ s.2.2 ∧ s.2.2 ≤ 8) (fun s=>8 - s.2.2.toNat) ⟨by simp,by simp⟩ (fun s hi=>?_)
 obtain ⟨h1,h2⟩:=hi
 refine Def.ite (fun hc=>?_) (fun hc=>.done (Def.bind (Def.shl (by decide) fun _=>.ret trivial)))
 have hc : s.2.2 < 8:=by simpa using hc
 have hw : IntKind.wrap .u64 (s.2.2 + 1) = s.2.2 + 1:=wrap_in (by simp [inR]; omega)
 refine Def.bind (Def.rem (by decide) fun v6=>Def.ite (fun _=>?_) (fun _=>?_))
 ·refine Def.bind' (F231_def _ _ _) (fun _ _=>.turn ?_)
  simp only [hw]
  exact ⟨⟨by omega,by omega⟩,by omega⟩
 ·refine Def.bind' (F231_def _ _ _) (fun _ _=>.turn ?_)
  simp only [hw]
  exact ⟨⟨by omega,by omega⟩,by omega⟩
theorem F122_def (a : Int) (s : D2) (b : Int) : Def (F122 a s b) fun _=>True:=by
 unfold F122
 exact Def.bind' (F185_def _ _) (fun _ _=>.ret trivial)
theorem F92_def (w : D7) (hn : (objs w).length ≤ 1000) : Def (F92 w) fun _=>True:=by
 unfold F92
 simp only [letJ_eq]
 refine Def.for1 (l:=objs w) (fun _=>True) (by omega) trivial (fun pre v post e _=>?_) (fun _=>.done (.ret trivial))
 refine Def.loop (fun i : Int=>0 ≤ i ∧ i ≤ (objs w).length) (fun i : Int=>(objs w).length - i.toNat) ⟨by simp,by omega⟩ (fun i hi=>?_)
 refine Def.ite (fun hc=>?_) (fun hc=>.done (.turn ⟨rfl,trivial⟩))
 have hlt : i < (objs w).length:=by
  by_cases h : i < (objs w).length
  ·exact h
  ·exfalso; simp only [objs] at h; rw [if_neg (by simpa using h)] at hc; cases hc
 refine Def.bind (Def.idx hi.1 hlt (fun o _ _=>Def.bind' (F122_def _ _ _) (fun _ _=>?_)))
 refine Def.bindI (fun _=>True) (fun _=>?_) (fun _ _ _=>Def.ite (fun _=>.done (.done (.ret trivial))) (fun _=>.turn ?_))
 ·unfold F123
  exact .ret trivial
 ·rw [wrap_i64 (by omega) (by omega)]
  exact ⟨⟨by omega,by omega⟩,by omega⟩
theorem pages_seg {o : D6} (h : Snd6 o) (hk : o.2.1 ≠ 2) : pages o ≤ quo o:=by
 unfold pages
 have:=h.quo
 by_cases e : o.2.1 = 1
 ·have:=h.seg e
  omega
 ·rw [h.dat e]
  simp
  omega
theorem F33_def (w : D7) (hn : (objs w).length ≤ 16) (hf : ∀ o ∈ objs w,FewO o) (h : ∀ o ∈ objs w,OkO o) : Def (F33 w) fun b=>b = true → Whole (objs w) w.2.2.1 ∧ ∀ o ∈ objs w,Snd6 o:=by
 unfold F33
 refine Def.bind (Def.of (F43_eq w _ (by omega)) ?_)
 refine Def.bind' (F13_def w (by unfold big; omega) h) (fun v2 q2=>?_)
 refine Def.ite (fun _=>.ret (fun h=>by cases h)) (fun hc=>?_)
 simp at hc
 obtain ⟨hids,hsn⟩:=q2 hc.1
 simp only [letJ_eq]
 have hl : ∀ o ∈ objs w,(lnk o).length ≤ 1000:=fun o ho=>by have:=(hf o ho).2.1; simp only [lnk]; omega
 refine Def.for1 (l:=objs w) (fun pre=>∀ o ∈ pre,((∀ x ∈ lnk o,∃ y ∈ objs w,y.1 = x) ∧ (o.2.1 = 2 → usesF (objs w) (pages o) (lnk o) ≤ quo o)) ∧ placedB (objs w) w.2.2.1 o = true) (by omega) (by simp) (fun pre v post e hi=>?_) (fun hi=>.done ?_)
 ·have hv : v ∈ objs w:=by rw [e]; simp
  refine Def.bind' (F90_def w v (by omega) (fun o ho=>(hsn o ho).lab) (hsn v hv).lab (hl v hv) (by have:=(hf v hv).2.2.1; simp only [dat]; omega)) (fun v5 q5=>?_)
  refine Def.bindI _ (fun _=>Def.at e) (fun v6 q6 _=>?_)
  refine Def.bindI (fun v=>v = placedB (objs w) w.2.2.1 v6) (fun _=>Def.of (F91_eq w v6 (by omega) hl) rfl) (fun v7 q7 _=>?_)
  refine Def.ite (fun _=>.done (.ret (fun h=>by cases h))) (fun hc=>.turn ⟨rfl,fun o ho=>?_⟩)
  rcases List.mem_append.1 ho with ho | ho
  ·exact hi o ho
  ·simp only [List.mem_singleton] at ho
   subst ho
   simp at hc
   have e6:=q6 (by simp [hc.1])
   subst e6
   have e7:=q7 (by simp [hc.1])
   rw [hc.2] at e7
   exact ⟨q5 hc.1,e7.symm⟩
 ·refine Def.bind' (F92_def w (by omega)) (fun v _=>.ret (fun _=>⟨?_,hsn⟩))
  exact {
   few:=hn,ids:=hids,quo:=fun o ho=>(hsn o ho).quo
   dat:=fun o ho=>(hf o ho).2.2.1,lns:=fun o ho=>(hf o ho).2.1
   own:=fun o ho hk=>⟨(hsn o ho).own hk,pages_seg (hsn o ho) hk⟩
   lnk:=fun o ho=>(hsn o ho).lnk,has:=fun o ho=>(hi o ho).1.1,uses:=fun o ho=>(hi o ho).1.2
   top:=⟨_,findO_of hc.2⟩,placed:=fun o ho=>(hi o ho).2 }
end Go.Fn
namespace Go.Fn
set_option linter.unusedVariables false
open Go Go.Ab Go.Tx
theorem shr_half {i j : Nat} (hn : i + j ≤ 4611686018427387904) : shrO .u64 (IntKind.wrap .u64 (IntKind.wrap .i64 ((i : Int) + j))) 1 = some (((i + j) / 2 : Nat) : Int):=by
 rw [wrap_i64 (x:=(i : Int) + j) (by omega) (by omega)]
 have e : IntKind.wrap .u64 ((i : Int) + j) = (i : Int) + j:=wrap_in (by simp [inR]; omega)
 rw [e,shrO,if_pos (by decide)]
 have e2 : ((i : Int) + j).fdiv (2 ^ (min (1 : Int).toNat (IntKind.bits .u64))) = (((i + j) / 2 : Nat) : Int):=by
  rw [show min (1 : Int).toNat (IntKind.bits .u64) = 1 from by decide,Int.fdiv_eq_ediv_of_nonneg _ (by decide)]
  simp
 rw [e2]
section
variable {ρ : Type}
theorem Def.search {n m : Nat} (hm : m ≤ n) (hn : n ≤ 1000000) {B E : Int × Int → Option ((Int × Int) ⊕ ρ)} {Q : ρ → Prop}
  (hb : ∀ i j : Nat,i < j → j ≤ n → i ≤ m → m ≤ j → Def (B ((i : Int),(j : Int))) fun r=>match r with | .inl s=>(s = ((((i + j) / 2 : Nat) : Int) + 1,(j : Int)) ∧ (i + j) / 2 < m) ∨ (s = ((i : Int),(((i + j) / 2 : Nat) : Int)) ∧ m ≤ (i + j) / 2) | .inr r=>Q r)
  (he : Def (E ((m : Int),(m : Int))) fun r=>match r with | .inl _=>False | .inr r=>Q r) :
  Def (whileO (fun s=>if decide (s.1 < s.2) = true then B s else E s) ((0 : Int),(n : Int))) Q:=by
 refine Def.loop (fun s : Int × Int=>∃ i j : Nat,s = ((i : Int),(j : Int)) ∧ i ≤ m ∧ m ≤ j ∧ j ≤ n) (fun s=>(s.2 - s.1).toNat) ⟨0,n,rfl,by omega,hm,by omega⟩ (fun s hi=>?_)
 obtain ⟨i,j,rfl,h1,h2,h3⟩:=hi
 refine Def.ite (fun hc=>?_) (fun hc=>?_)
 ·have hlt : i < j:=by simpa using hc
  refine (hb i j hlt h3 h1 h2).mono fun r hr=>?_
  cases r with
  | inr r=>exact hr
  | inl s =>
   rcases hr with ⟨rfl,h⟩ | ⟨rfl,h⟩
   ·exact ⟨⟨(i + j) / 2 + 1,j,by simp,by omega,by omega,by omega⟩,by simp only; omega⟩
   ·exact ⟨⟨i,(i + j) / 2,rfl,by omega,by omega,by omega⟩,by simp only; omega⟩
 ·have hge : ¬ i < j:=by simpa using hc
  have e1 : i = m:=by omega
  have e2 : j = m:=by omega
  subst e1; subst e2
  refine he.mono fun r hr=>?_
  cases r with
  | inl s=>exact hr.elim
  | inr r=>exact hr
end
theorem F203_eq (a b : Int) : F203 a b = some (if a < b then -1 else if b < a then 1 else 0):=by
 unfold F203 F204
 simp only [Option.bind_some,letJ_eq,bne_self_eq_false,Bool.false_eq_true,if_false]
 by_cases h1 : a < b
 ·simp [h1]
 ·by_cases h2 : b < a
  ·simp [h1,h2]
  ·simp [h1,h2]
theorem F134_eq (a b : Int) : F134 a b = some (decide (a < b)):=by
 unfold F134 F204
 simp
theorem F70_eq (l : List Int) (t : Int) (hl : l.length ≤ 1000000) (hp : l.Pairwise (· < ·)) : F70 l t = some ((lowB l t : Int),decide (t ∈ l)):=by
 refine Def.eq ?_
 unfold F70
 simp only [letJ_eq]
 refine Def.search (n:=l.length) (m:=lowB l t) (lowB_le l t) hl (fun i j hij hj h1 h2=>?_) (.done ?_)
 ·simp only
  rw [shr_half (by omega)]
  have hk : (i + j) / 2 < l.length:=by omega
  have ew : IntKind.wrap .i64 (((i + j) / 2 : Nat) : Int) = (((i + j) / 2 : Nat) : Int):=wrap_i64 (by omega) (by omega)
  have ew2 : IntKind.wrap .i64 ((((i + j) / 2 : Nat) : Int) + 1) = (((i + j) / 2 : Nat) : Int) + 1:=wrap_i64 (by omega) (by omega)
  rw [Option.bind_some]
  simp only [ew,ew2]
  refine Def.bind (Def.idx (by omega) (by omega) (fun v hv _=>?_))
  simp only [Int.toNat_natCast] at hv
  have hlow:=lowB_lt hp t _ v hv
  rw [F134_eq,Option.bind_some]
  refine Def.ite (fun hc=>.turn (.inl ⟨rfl,?_⟩)) (fun hc=>.turn (.inr ⟨rfl,?_⟩))
  ·exact hlow.1 (by simpa using hc)
  ·have : ¬ v < t:=by simpa using hc
   exact Nat.le_of_not_lt fun h=>this (hlow.2 h)
 ·simp only [F135,bne_self_eq_false]
  by_cases hlt : lowB l t < l.length
  ·have hg:=List.getElem?_eq_getElem hlt
   have hm:=lowB_mem hp hg
   have h1 : idxO l (lowB l t : Int) = some l[lowB l t]:=by rw [idxO_nat,hg]
   have hd : decide (((lowB l t : Nat) : Int) < ((l.length : Nat) : Int)) = true:=by simpa using hlt
   simp only [hd,h1,Bool.and_true,Bool.true_and,if_true,Option.bind_some]
   by_cases he : l[lowB l t] = t
   ·simp [he,hm.2 he,Def]
   ·have : t ∉ l:=fun h=>he (hm.1 h)
    simp [he,this,Def]
  ·have hd : decide (((lowB l t : Nat) : Int) < ((l.length : Nat) : Int)) = false:=by simpa using hlt
   have : t ∉ l:=lowB_end hp (by omega)
   simp only [hd,Bool.false_and,Bool.false_eq_true,if_false,Option.bind_some]
   exact ⟨_,rfl,by simp [this]⟩
abbrev keys (l : List D6) : List Int:=l.map (·.1)
theorem keys_rise {l : List D6} (h : l.Pairwise (fun a b=>a.1 < b.1)) : (keys l).Pairwise (· < ·):=by
 rw [List.pairwise_map]; exact h
theorem F69_eq (w : D7) (id : Int) (hl : (objs w).length ≤ 1000000) (hp : (objs w).Pairwise (fun a b=>a.1 < b.1)) : F69 w id = some (findO (objs w) id):=by
 refine Def.eq ?_
 unfold F69 F132
 rw [Option.bind_some]
 have e0 : ((sett9_1_1 (sett9_0_1 (Ty.zero t9 : D9) w.2.2.2.1) ()) : D8).1 = objs w:=rfl
 simp only [letJ_eq,e0]
 have hk:=keys_rise hp
 have hlen : (keys (objs w)).length = (objs w).length:=by simp [keys]
 have hge : ∀ (k : Nat) (v : D6),(objs w)[k]? = some v → (keys (objs w))[k]? = some v.1:=fun k v h=>by simp [keys,h]
 refine Def.search (n:=(objs w).length) (m:=lowB (keys (objs w)) id) (by rw [← hlen]; exact lowB_le _ _) hl (fun i j hij hj h1 h2=>?_) (.done ?_)
 ·simp only
  rw [shr_half (by omega)]
  have ew : IntKind.wrap .i64 (((i + j) / 2 : Nat) : Int) = (((i + j) / 2 : Nat) : Int):=wrap_i64 (by omega) (by omega)
  have ew2 : IntKind.wrap .i64 ((((i + j) / 2 : Nat) : Int) + 1) = (((i + j) / 2 : Nat) : Int) + 1:=wrap_i64 (by omega) (by omega)
  rw [Option.bind_some]
  simp only [ew,ew2]
  refine Def.bind (Def.idx (by omega) (by show _ < (((objs w).length : Nat) : Int); omega) (fun v hv _=>?_))
  simp only [Int.toNat_natCast] at hv
  have hlow:=lowB_lt hk id _ v.1 (hge _ _ hv)
  rw [F145,Option.bind_some,F203_eq,Option.bind_some]
  refine Def.ite (fun hc=>.turn (.inl ⟨rfl,?_⟩)) (fun hc=>.turn (.inr ⟨rfl,?_⟩))
  ·refine hlow.1 ?_
   by_cases h : v.1 < id
   ·exact h
   ·by_cases h' : id < v.1 <;> simp [h,h'] at hc
  ·have : ¬ v.1 < id:=fun h=>by simp [h] at hc
   exact Nat.le_of_not_lt fun h=>this (hlow.2 h)
 ·by_cases hlt : lowB (keys (objs w)) id < (objs w).length
  ·have hg:=List.getElem?_eq_getElem hlt
   have hm:=lowB_mem hk (hge _ _ hg)
   have h1 : idxO (objs w) (lowB (keys (objs w)) id : Int) = some (objs w)[lowB (keys (objs w)) id]:=by rw [idxO_nat,hg]
   have hd : decide (((lowB (keys (objs w)) id : Nat) : Int) < (((objs w).length : Nat) : Int)) = true:=by simpa using hlt
   generalize ho : (objs w)[lowB (keys (objs w)) id] = o at h1 hm
   have hin : o ∈ objs w:=by rw [← ho]; exact List.getElem_mem hlt
   simp only [hd,h1,Bool.and_true,if_true,Option.bind_some,F145,F203_eq]
   by_cases he : o.1 = id
   ·subst he
    refine ⟨_,by simp only [Int.lt_irrefl,if_false]; rfl,?_⟩
    exact (findO_mem hp o hin).symm
   ·have hno : ∀ x ∈ objs w,x.1 ≠ id:=fun x hx e=>he (hm.1 (List.mem_map.2 ⟨x,hx,e⟩))
    refine ⟨_,?_,rfl⟩
    rw [findO_none hno]
    have : ¬ ((if o.1 < id then (-1 : Int) else if id < o.1 then 1 else 0) == 0) = true:=by
     by_cases h1 : o.1 < id
     ·simp [h1]
     ·by_cases h2 : id < o.1
      ·simp [h1,h2]
      ·omega
    rw [if_pos (by simpa using this)]
  ·have hd : decide (((lowB (keys (objs w)) id : Nat) : Int) < (((objs w).length : Nat) : Int)) = false:=by simpa using hlt
   have hno : ∀ x ∈ objs w,x.1 ≠ id:=fun x hx e=>lowB_end hk (by rw [hlen]; omega) (List.mem_map.2 ⟨x,hx,e⟩)
   simp only [hd,Bool.false_and,Bool.false_eq_true,if_false,Option.bind_some]
   exact ⟨_,rfl,(findO_none hno).symm⟩
theorem F68_eq (o : D6) (h : (dat o).length ≤ 1000000) : F68 o = some (pages o):=by
 unfold F68
 have h' : (o.2.2.2.2.2.2.1).length ≤ 1000000:=h
 have e2 : (((o.2.2.2.2.2.2.1).length : Nat) : Int).tdiv 16 = ((o.2.2.2.2.2.2.1).length : Int) / 16:=Int.tdiv_eq_ediv_of_nonneg (by omega)
 have e3 : (((o.2.2.2.2.2.2.1).length : Nat) : Int).tmod 16 = ((o.2.2.2.2.2.2.1).length : Int) % 16:=Int.tmod_eq_emod_of_nonneg (by omega)
 rw [quoO,if_pos (by decide),e2,Option.bind_some,remO,if_pos (by decide),e3,Option.bind_some]
 simp only [letJ_eq]
 rw [wrap_i64 (x:=((o.2.2.2.2.2.2.1).length : Int) / 16) (by omega) (by omega),wrap_i64 (x:=((o.2.2.2.2.2.2.1).length : Int) / 16 + 1) (by omega) (by omega)]
 unfold pages
 split
 ·rename_i hc
  have hc : ((o.2.2.2.2.2.2.1).length : Int) % 16 > 0:=by simpa using hc
  rw [wrap_i64 (by omega) (by omega)]
  simp only [dat,Option.some.injEq]; omega
 ·rename_i hc
  have hc : ¬ ((o.2.2.2.2.2.2.1).length : Int) % 16 > 0:=by simpa using hc
  simp only [dat,Option.some.injEq]; omega
theorem F35_eq (w : D7) (o : D6) (hl : (objs w).length ≤ 1000000) (hp : (objs w).Pairwise (fun a b=>a.1 < b.1)) (hd : (dat o).length ≤ 1000000) (hk : (lnk o).length ≤ 1000) : F35 w o = some (usesF (objs w) (pages o) (lnk o)):=by
 refine Def.eq ?_
 unfold F35
 rw [F68_eq o hd,Option.bind_some]
 simp only [letJ_eq]
 have e0 : ((sett11_0_4 (Ty.zero t11 : D11) w) : D11).1 = w:=rfl
 refine Def.forB (l:=lnk o) (fun s : Int × Int=>s.1) (fun pre s=>s.2 = usesF (objs w) (pages o) pre) (by omega) rfl rfl (fun pre v post s e hs hi=>?_) (fun s hs hi=>.done (.ret hi))
 rw [hs]
 refine Def.bind' (Def.at e) (fun u hu=>?_)
 subst hu
 refine Def.bind (Def.of (F69_eq w u hl hp) (.turn ⟨rfl,?_⟩))
 rw [hi]
 simp only [usesF,List.foldl_append,List.foldl_cons,List.foldl_nil]
theorem F37_eq (w : D7) (o : D6) (hl : (objs w).length ≤ 1000000) (hp : (objs w).Pairwise (fun a b=>a.1 < b.1)) (hd : (dat o).length ≤ 1000000) (hk : (lnk o).length ≤ 1000) : F37 w o = some (IntKind.wrap .i64 (quo o - usesF (objs w) (pages o) (lnk o))):=by
 unfold F37
 rw [F35_eq w o hl hp hd hk,Option.bind_some]
end Go.Fn
namespace Go.Fn
set_option linter.unusedVariables false
open Go Go.Ab Go.Tx
theorem okO_of {o : D6} (h : wfT t6 o) : OkO o:=by
 obtain ⟨_,_,h1,_,_,h2,h3,h4,h5,h6,h7,h8,_⟩:=h
 obtain ⟨_,_,c1,_,_,_,_,_,c2,_,c3,_⟩:=h5
 obtain ⟨g1,g2,_⟩:=h6
 exact ⟨h1.1,h2.1,h3.1,h4.1,c1.1,c2.1,fun i=>(c3 i).1,g1.1,g2.1,h7.1,h8.1⟩
theorem ok_of {w : D7} (h : wfT t7 w) : (objs w).length ≤ big ∧ ∀ o ∈ objs w,OkO o:=by
 obtain ⟨_,_,_,h,_⟩:=h
 exact ⟨h.1,fun o ho=>okO_of (h.2 o ho)⟩
end Go.Fn
namespace Go.Fn
set_option linter.unusedVariables false
open Go Go.Ab Go.Tx
def raiseN (n : Int) : Int:=if n = 0 then 5 else n
def raiseL (l : List D0) : List D0:=l.map fun p=>(p.1,raiseN p.2.1,())
theorem F301_eq {n : Int} (h0 : 0 ≤ n) (h5 : n ≤ 5) : F301 n = some n:=by
 unfold F301 F278
 simp [h0,h5]
theorem F268_eq {n : Int} (h0 : 0 ≤ n) (h5 : n ≤ 5) : F268 n = some (raiseN n):=by
 unfold F268
 rw [F301_eq h0 h5,Option.bind_some,raiseN]
 by_cases h : n = 0 <;> simp [h]
theorem F210_eq (l : List D0) (hl : l.length ≤ 1000) (hf : FitL l) : F210 l = some (raiseL l):=by
 refine Def.eq ?_
 unfold F210
 simp only [letJ_eq]
 refine Def.loop (fun s : List D0 × List D0 × List D0=>s.1 = [] ∧ ∃ pre,l = pre ++ s.2.1 ∧ s.2.2 = raiseL pre) (fun s=>s.2.1.length) ⟨rfl,[],rfl,rfl⟩ (fun s hi=>?_)
 obtain ⟨b,a,out⟩:=s
 obtain ⟨rfl,pre,e,rfl⟩:=hi
 simp only at e
 cases a with
 | nil =>
  refine Def.ite (fun hc=>?_) (fun _=>.done (.ret (by simp only [List.append_nil] at e; rw [e])))
  simp [IntKind.wrap] at hc
  exact absurd hc (by decide)
 | cons p a =>
  have hlen : pre.length + (a.length + 1) ≤ 1000:=by rw [e] at hl; simpa using hl
  obtain ⟨h0,h5,h2⟩:=hf.lev p (by rw [e]; simp)
  have hw : IntKind.wrap .i64 ((((p :: a).length : Nat) : Int) + (([] : List D0).length : Nat)) = (a.length : Int) + 1:=by
   rw [wrap_i64 (by simp only [List.length_cons,List.length_nil]; omega) (by simp only [List.length_cons,List.length_nil]; omega)]
   simp
  have hi0 : idxO (p :: a) 0 = some p:=rfl
  have hs : slcO (p :: a) 1 ((a.length : Int) + 1) = some a:=by
   rw [slcO,if_pos ⟨by omega,by omega,by simp⟩]
   simp
  have hr : raiseN p.2.1 ≠ 2:=by unfold raiseN; split <;> omega
  refine Def.ite (fun _=>?_) (fun hc=>?_)
  ·have hne : ((a.length : Int) + 1 == 0) = false:=by simp; omega
   have hpos : decide ((a.length : Int) + 1 > 0) = true:=by simp only [gt_iff_lt,decide_eq_true_eq]; omega
   have hr' : (raiseN p.2.1 != 2) = true:=by simpa using hr
   have el : (((p :: a).length : Nat) : Int) = (a.length : Int) + 1:=by simp
   have en : ((([] : List D0).length : Nat) : Int) = 0:=rfl
   simp only [hi0,hs,el,en,hne,hpos,hr',F267,F268_eq h0 h5,Option.bind_some,beq_self_eq_true,if_true,Bool.not_true,Bool.not_false,Bool.false_and,Bool.and_false,Bool.false_eq_true,if_false,Bool.and_self,Bool.and_true,Int.lt_irrefl,gt_iff_lt,decide_false]
   refine Def.bind (Def.app (by simp only [raiseL,List.length_cons,List.length_nil,List.length_map]; omega) (.turn ⟨⟨rfl,pre ++ [p],by simpa using e,?_⟩,by simp⟩))
   simp [raiseL]
  ·simp only [hw] at hc
   simp at hc
def getL (l : List D0) (c : Int) : Int:=match l.find? (fun p=>p.1 == c) with | some p=>p.2.1 | none=>2
theorem getL_mem : ∀ {l : List D0},l.Pairwise (fun a b=>a.1 < b.1) → ∀ p ∈ l,getL l p.1 = p.2.1
 | [],_,o,h=>by cases h
 | a :: l,hp,o,h=>by
  obtain ⟨h1,h2⟩:=List.pairwise_cons.1 hp
  rcases List.mem_cons.1 h with rfl | h
  ·simp [getL]
  ·have:=h1 o h
   have hne : (a.1 == o.1) = false:=by simp; omega
   have ih:=getL_mem h2 o h
   unfold getL at ih ⊢
   rw [List.find?_cons,hne]
   exact ih
theorem getL_none {l : List D0} {c : Int} (h : ∀ p ∈ l,p.1 ≠ c) : getL l c = 2:=by
 have : l.find? (fun p=>p.1 == c) = none:=List.find?_eq_none.2 fun p hp=>by simpa using h p hp
 unfold getL
 rw [this]
theorem F300_eq (p : D0) (c : Int) : F300 p c = some (if p.1 < c then -1 else if c < p.1 then 1 else 0):=by
 unfold F300
 rw [F203_eq,Option.bind_some]
theorem F209_eq (l : List D0) (c : Int) (hl : l.length ≤ 1000000) (hp : l.Pairwise (fun a b=>a.1 < b.1)) : F209 l c = some (getL l c):=by
 have hk : (l.map (·.1)).Pairwise (· < ·):=by rw [List.pairwise_map]; exact hp
 have hlen : (l.map (·.1)).length = l.length:=by simp
 have hge : ∀ (k : Nat) (v : D0),l[k]? = some v → (l.map (·.1))[k]? = some v.1:=fun k v h=>by simp [h]
 have h265 : Def (F265 l c) fun r=>Def (if r.2 = true then Option.bind (idxO l r.1) fun v=>some v.2.1 else some 2) fun r=>r = getL l c:=by
  unfold F265
  simp only [letJ_eq]
  refine Def.search (n:=l.length) (m:=lowB (l.map (·.1)) c) (by rw [← hlen]; exact lowB_le _ _) hl (fun i j hij hj h1 h2=>?_) (.done ?_)
  ·simp only
   rw [shr_half (by omega)]
   have ew : IntKind.wrap .i64 (((i + j) / 2 : Nat) : Int) = (((i + j) / 2 : Nat) : Int):=wrap_i64 (by omega) (by omega)
   have ew2 : IntKind.wrap .i64 ((((i + j) / 2 : Nat) : Int) + 1) = (((i + j) / 2 : Nat) : Int) + 1:=wrap_i64 (by omega) (by omega)
   rw [Option.bind_some]
   simp only [ew,ew2]
   refine Def.bind (Def.idx (by omega) (by omega) (fun v hv _=>?_))
   simp only [Int.toNat_natCast] at hv
   have hlow:=lowB_lt hk c _ v.1 (hge _ _ hv)
   rw [F300_eq,Option.bind_some]
   refine Def.ite (fun hc=>.turn (.inl ⟨rfl,?_⟩)) (fun hc=>.turn (.inr ⟨rfl,?_⟩))
   ·refine hlow.1 ?_
    by_cases h : v.1 < c
    ·exact h
    ·by_cases h' : c < v.1 <;> simp [h,h'] at hc
   ·have : ¬ v.1 < c:=fun h=>by simp [h] at hc
    exact Nat.le_of_not_lt fun h=>this (hlow.2 h)
  ·by_cases hlt : lowB (l.map (·.1)) c < l.length
   ·have hg:=List.getElem?_eq_getElem hlt
    have hm:=lowB_mem hk (hge _ _ hg)
    have h1 : idxO l (lowB (l.map (·.1)) c : Int) = some l[lowB (l.map (·.1)) c]:=by rw [idxO_nat,hg]
    have hd : decide (((lowB (l.map (·.1)) c : Nat) : Int) < ((l.length : Nat) : Int)) = true:=by simpa using hlt
    generalize ho : l[lowB (l.map (·.1)) c] = o at h1 hm
    have hin : o ∈ l:=by rw [← ho]; exact List.getElem_mem hlt
    simp only [hd,h1,Bool.and_true,if_true,Option.bind_some,F300_eq]
    by_cases he : o.1 = c
    ·subst he
     refine ⟨_,rfl,?_⟩
     simp only [Int.lt_irrefl,if_false]
     refine ⟨_,?_,(getL_mem hp o hin).symm⟩
     simp [h1]
    ·have hno : ∀ x ∈ l,x.1 ≠ c:=fun x hx e=>he (hm.1 (List.mem_map.2 ⟨x,hx,e⟩))
     refine ⟨_,rfl,?_⟩
     rw [getL_none hno]
     have : ¬ ((if o.1 < c then (-1 : Int) else if c < o.1 then 1 else 0) == 0) = true:=by
      by_cases h1 : o.1 < c
      ·simp [h1]
      ·by_cases h2 : c < o.1
       ·simp [h1,h2]
       ·omega
     have hx : ((if o.1 < c then (-1 : Int) else if c < o.1 then 1 else 0) == 0) = false:=by simpa only [Bool.not_eq_true] using this
     show Def (if ((if o.1 < c then (-1 : Int) else if c < o.1 then 1 else 0) == 0) = true then _ else _) _
     rw [hx]
     exact .ret rfl
   ·have hd : decide (((lowB (l.map (·.1)) c : Nat) : Int) < ((l.length : Nat) : Int)) = false:=by simpa using hlt
    have hno : ∀ x ∈ l,x.1 ≠ c:=fun x hx e=>lowB_end hk (by rw [hlen]; omega) (List.mem_map.2 ⟨x,hx,e⟩)
    simp only [hd,Bool.false_and,Bool.false_eq_true,if_false,Option.bind_some]
    exact ⟨_,rfl,.ret (getL_none hno).symm⟩
 unfold F209
 exact Def.eq (Def.bind h265)
theorem raiseL_rise {l : List D0} (h : FitL l) : (raiseL l).Pairwise (fun a b=>a.1 < b.1):=by
 unfold raiseL
 rw [List.pairwise_map]
 exact h.rise
def placeB (d o : List D0) : Bool:=d.all fun p=>decide (p.2.1 ≤ max 2 (getL (raiseL o) p.1))
theorem F146_eq (d o : List D0) (hd : d.length ≤ 1000) (ho : o.length ≤ 1000) (hf : FitL o) : F146 d o = some (placeB d o):=by
 refine Def.eq ?_
 unfold F146
 simp only [letJ_eq]
 refine Def.for1 (l:=d) (fun pre=>placeB pre o = true) (by omega) rfl (fun pre v post e hi=>?_) (fun hi=>.done (.ret hi.symm))
 rw [F210_eq o ho hf,Option.bind_some,F209_eq _ _ (by simp [raiseL]; omega) (raiseL_rise hf),Option.bind_some]
 have hm : (if decide ((2 : Int) > getL (raiseL o) v.1) = true then (2 : Int) else getL (raiseL o) v.1) = max 2 (getL (raiseL o) v.1):=by
  by_cases h : (2 : Int) > getL (raiseL o) v.1
  ·rw [if_pos (by simpa using h)]; omega
  ·rw [if_neg (by simpa using h)]; omega
 rw [hm]
 refine Def.ite (fun hc=>.done (.ret ?_)) (fun hc=>.turn ⟨rfl,?_⟩)
 ·have hc : v.2.1 > max 2 (getL (raiseL o) v.1):=by simpa using hc
  have : decide (v.2.1 ≤ max 2 (getL (raiseL o) v.1)) = false:=by simp only [decide_eq_false_iff_not]; omega
  have hp : placeB (pre ++ v :: post) o = false:=by rw [placeB,List.all_append,List.all_cons,this]; simp
  rw [e,hp]
 ·have hc : ¬ v.2.1 > max 2 (getL (raiseL o) v.1):=by simpa using hc
  unfold placeB at hi ⊢
  rw [List.all_append,hi,List.all_cons,List.all_nil,decide_eq_true (by omega)]
  rfl
end Go.Fn
namespace Go.Fn
set_option linter.unusedVariables false
open Go Go.Ab Go.Tx
theorem lowB_cons {k t : Int} {ks : List Int} : lowB (k :: ks) t = if k < t then lowB ks t + 1 else lowB ks t:=by
 unfold lowB
 rw [List.filter_cons]
 by_cases h : k < t <;> simp [h]
theorem split_low : ∀ {l : List D6},l.Pairwise (fun a b=>a.1 < b.1) → ∀ t : Int,l.take (lowB (keys l) t) = l.filter (fun o=>decide (o.1 < t)) ∧ l.drop (lowB (keys l) t) = l.filter (fun o=>!decide (o.1 < t))
 | [],_,t=>by simp
 | o :: l,hp,t=>by
  obtain ⟨h1,h2⟩:=List.pairwise_cons.1 hp
  obtain ⟨i1,i2⟩:=split_low h2 t
  by_cases h : o.1 < t
  ·have e : lowB (keys (o :: l)) t = lowB (keys l) t + 1:=by simp only [keys,List.map_cons,lowB_cons,h,if_true]
   rw [e]
   simp only [List.take_succ_cons,List.drop_succ_cons,List.filter_cons,h,decide_true,if_true,Bool.not_true,Bool.false_eq_true,if_false]
   exact ⟨by rw [i1],i2⟩
  ·have hall : ∀ x ∈ o :: l,¬ x.1 < t:=by
    intro x hx
    rcases List.mem_cons.1 hx with rfl | hx
    ·exact h
    ·have:=h1 x hx; omega
   have e : lowB (keys (o :: l)) t = 0:=by
    unfold lowB
    rw [List.filter_eq_nil_iff.2]
    ·rfl
    ·intro x hx
     obtain ⟨y,hy,rfl⟩:=List.mem_map.1 hx
     simpa using hall y hy
   rw [e]
   refine ⟨?_,?_⟩
   ·rw [List.take_zero,List.filter_eq_nil_iff.2]
    intro x hx; simpa using hall x hx
   ·rw [List.drop_zero,List.filter_eq_self.2]
    intro x hx; simpa using hall x hx
theorem split_lowI : ∀ {l : List Int},l.Pairwise (· < ·) → ∀ t : Int,l.take (lowB l t) = l.filter (fun o=>decide (o < t)) ∧ l.drop (lowB l t) = l.filter (fun o=>!decide (o < t))
 | [],_,t=>by simp
 | o :: l,hp,t=>by
  obtain ⟨h1,h2⟩:=List.pairwise_cons.1 hp
  obtain ⟨i1,i2⟩:=split_lowI h2 t
  by_cases h : o < t
  ·have e : lowB (o :: l) t = lowB l t + 1:=by simp only [lowB_cons,h,if_true]
   rw [e]
   simp only [List.take_succ_cons,List.drop_succ_cons,List.filter_cons,h,decide_true,if_true,Bool.not_true,Bool.false_eq_true,if_false]
   exact ⟨by rw [i1],i2⟩
  ·have hall : ∀ x ∈ o :: l,¬ x < t:=by
    intro x hx
    rcases List.mem_cons.1 hx with rfl | hx
    ·exact h
    ·have:=h1 x hx; omega
   have e : lowB (o :: l) t = 0:=by
    unfold lowB
    rw [List.filter_eq_nil_iff.2]
    ·rfl
    ·intro x hx; simpa using hall x hx
   rw [e]
   refine ⟨?_,?_⟩
   ·rw [List.take_zero,List.filter_eq_nil_iff.2]
    intro x hx; simpa using hall x hx
   ·rw [List.drop_zero,List.filter_eq_self.2]
    intro x hx; simpa using hall x hx
def insL (l : List Int) (t : Int) : List Int:=l.filter (fun o=>decide (o < t)) ++ t :: l.filter (fun o=>!decide (o < t))
def putL (l : List D6) (o : D6) : List D6:=l.filter (fun x=>decide (x.1 < o.1)) ++ o :: l.filter (fun x=>decide (o.1 < x.1))
theorem insL_eq {l : List Int} (hp : l.Pairwise (· < ·)) (t : Int) (hl : l.length ≤ 1000000) : insO 8 l (lowB l t : Int) [t] = some (insL l t):=by
 have h1:=lowB_le l t
 rw [insO,if_pos ⟨by omega,by omega,by simp only [List.length_cons,List.length_nil]; omega⟩]
 obtain ⟨e1,e2⟩:=split_lowI hp t
 simp only [Int.toNat_natCast,e1,e2,insL]
 simp
theorem putL_ins {l : List D6} (hp : l.Pairwise (fun a b=>a.1 < b.1)) (o : D6) (hl : l.length ≤ 1000000) (hno : ∀ x ∈ l,x.1 ≠ o.1) : insO 632 l (lowB (keys l) o.1 : Int) [o] = some (putL l o):=by
 have h1:=lowB_le (keys l) o.1
 have h2 : (keys l).length = l.length:=by simp [keys]
 rw [insO,if_pos ⟨by omega,by omega,by simp only [List.length_cons,List.length_nil]; omega⟩]
 obtain ⟨e1,e2⟩:=split_low hp o.1
 simp only [Int.toNat_natCast,e1,e2,putL]
 have : l.filter (fun x=>!decide (x.1 < o.1)) = l.filter (fun x=>decide (o.1 < x.1)):=by
  refine List.filter_congr fun x hx=>?_
  have:=hno x hx
  by_cases h : x.1 < o.1
  ·have h' : ¬ o.1 < x.1:=by omega
   simp [h,h']
  ·have h' : o.1 < x.1:=by omega
   simp [h,h']
 rw [this]; simp
theorem putL_set {l : List D6} (hp : l.Pairwise (fun a b=>a.1 < b.1)) (o v : D6) (hv : l[lowB (keys l) o.1]? = some v) (e : v.1 = o.1) : lsetO l (lowB (keys l) o.1 : Int) o = some (putL l o):=by
 obtain ⟨hlt,hve⟩:=List.getElem?_eq_some_iff.1 hv
 rw [lsetO,if_pos ⟨by omega,by simpa using hlt⟩]
 obtain ⟨e1,e2⟩:=split_low hp o.1
 simp only [Int.toNat_natCast,Option.some.injEq]
 rw [List.set_eq_take_append_cons_drop,if_pos hlt,e1,putL]
 have hd : l.drop (lowB (keys l) o.1) = v :: l.drop (lowB (keys l) o.1 + 1):=by rw [← hve]; exact List.drop_eq_getElem_cons hlt
 rw [hd] at e2
 have e3 : l.drop (lowB (keys l) o.1 + 1) = l.filter (fun x=>decide (o.1 < x.1)):=by
  have hp2 : (v :: l.drop (lowB (keys l) o.1 + 1)).Pairwise (fun a b=>a.1 < b.1):=by rw [← hd]; exact hp.sublist (List.drop_sublist _ _)
  obtain ⟨q1,q2⟩:=List.pairwise_cons.1 hp2
  have h1 : (v :: l.drop (lowB (keys l) o.1 + 1)).filter (fun x=>decide (o.1 < x.1)) = l.drop (lowB (keys l) o.1 + 1):=by
   rw [List.filter_cons,if_neg (by simp; omega),List.filter_eq_self.2]
   intro x hx
   have:=q1 x hx
   simp; omega
  rw [← h1,e2,List.filter_filter]
  refine List.filter_congr fun x hx=>?_
  by_cases h : o.1 < x.1
  ·have h' : ¬ x.1 < o.1:=by omega
   simp [h,h']
  ·simp [h]
 rw [e3]
theorem mem_insL {l : List Int} {t x : Int} : x ∈ insL l t ↔ x = t ∨ x ∈ l:=by
 simp only [insL,List.mem_append,List.mem_cons,List.mem_filter]
 by_cases h : x < t
 ·simp [h]; constructor
  ·rintro (h1 | h1)
   ·exact .inr h1
   ·omega
  ·rintro (h1 | h1)
   ·omega
   ·exact .inl h1
 ·simp [h]
theorem mem_putL {l : List D6} {o x : D6} : x ∈ putL l o ↔ x = o ∨ x ∈ l ∧ x.1 ≠ o.1:=by
 simp only [putL,List.mem_append,List.mem_cons,List.mem_filter,decide_eq_true_eq]
 constructor
 ·rintro (⟨h1,h2⟩ | h | ⟨h1,h2⟩)
  ·exact .inr ⟨h1,by omega⟩
  ·exact .inl h
  ·exact .inr ⟨h1,by omega⟩
 ·rintro (h | ⟨h1,h2⟩)
  ·exact .inr (.inl h)
  ·by_cases h : x.1 < o.1
   ·exact .inl ⟨h1,h⟩
   ·exact .inr (.inr ⟨h1,by omega⟩)
theorem insL_rise {l : List Int} (hp : l.Pairwise (· < ·)) {t : Int} (hn : t ∉ l) : (insL l t).Pairwise (· < ·):=by
 unfold insL
 rw [List.pairwise_append,List.pairwise_cons]
 refine ⟨hp.filter _,⟨fun x hx=>?_,hp.filter _⟩,fun x hx y hy=>?_⟩
 ·simp only [List.mem_filter] at hx
  have h1 : ¬ x < t:=by simpa using hx.2
  have : x ≠ t:=fun e=>hn (e ▸ hx.1)
  omega
 ·simp only [List.mem_filter,decide_eq_true_eq] at hx
  rcases List.mem_cons.1 hy with rfl | hy
  ·exact hx.2
  ·simp only [List.mem_filter] at hy
   have h1 : ¬ y < t:=by simpa using hy.2
   omega
theorem putL_rise {l : List D6} (hp : l.Pairwise (fun a b=>a.1 < b.1)) (o : D6) : (putL l o).Pairwise (fun a b=>a.1 < b.1):=by
 unfold putL
 rw [List.pairwise_append,List.pairwise_cons]
 refine ⟨hp.filter _,⟨fun x hx=>?_,hp.filter _⟩,fun x hx y hy=>?_⟩
 ·simp only [List.mem_filter,decide_eq_true_eq] at hx; exact hx.2
 ·simp only [List.mem_filter,decide_eq_true_eq] at hx
  rcases List.mem_cons.1 hy with rfl | hy
  ·exact hx.2
  ·simp only [List.mem_filter,decide_eq_true_eq] at hy; omega
theorem insL_len (l : List Int) (t : Int) : (insL l t).length ≤ l.length + 1:=by
 have h : ∀ l : List Int,(l.filter (fun o=>decide (o < t))).length + (l.filter (fun o=>!decide (o < t))).length = l.length:=by
  intro l
  induction l with
  | nil=>rfl
  | cons a l ih=>by_cases h : a < t <;> simp [List.filter_cons,h] <;> omega
 have:=h l
 simp only [insL,List.length_append,List.length_cons]; omega
theorem putL_len (l : List D6) (o : D6) : (putL l o).length ≤ l.length + 1:=by
 have h : ∀ l : List D6,(l.filter (fun x=>decide (x.1 < o.1))).length + (l.filter (fun x=>decide (o.1 < x.1))).length ≤ l.length:=by
  intro l
  induction l with
  | nil=>exact Nat.le_refl _
  | cons a l ih =>
   by_cases h : a.1 < o.1
   ·have h' : ¬ o.1 < a.1:=by omega
    simp [List.filter_cons,h,h']; omega
   ·by_cases h' : o.1 < a.1 <;> simp [List.filter_cons,h,h'] <;> omega
 have:=h l
 simp only [putL,List.length_append,List.length_cons]; omega
abbrev Ris (w : D7) : Prop:=(objs w).Pairwise (fun a b=>a.1 < b.1)
def putW (w : D7) (o : D6) : D7:=if (putL (objs w) o).length ≤ 1024 then sett7_3_1 w (putL (objs w) o) else w
theorem F74_eq (w : D7) (o : D6) (hl : (objs w).length ≤ 100000) (hp : Ris w) : F74 w o = some (putW w o):=by
 refine Def.eq ?_
 unfold F74 F132
 rw [Option.bind_some]
 have e0 : ((sett9_1_1 (sett9_0_1 (Ty.zero t9 : D9) w.2.2.2.1) ()) : D8).1 = objs w:=rfl
 simp only [letJ_eq,e0]
 have hk:=keys_rise hp
 have hlen : (keys (objs w)).length = (objs w).length:=by simp [keys]
 have hge : ∀ (k : Nat) (v : D6),(objs w)[k]? = some v → (keys (objs w))[k]? = some v.1:=fun k v h=>by simp [keys,h]
 have fin : ∀ l,l = putL (objs w) o → Def (if decide (((List.length l : Nat) : Int) ≤ (1024 : Int)) = true then some (sett7_3_1 w l) else some w) fun r=>r = putW w o:=by
  rintro l rfl
  unfold putW
  refine Def.ite (fun hc=>.ret ?_) (fun hc=>.ret ?_)
  ·rw [if_pos (by simp only [decide_eq_true_eq] at hc; omega)]
  ·rw [if_neg (by simp only [decide_eq_true_eq] at hc; omega)]
 have hc0 : ∀ {Q : List D6 → Prop},Q (objs w) → Def (appO 632 [] (objs w)) Q:=fun h=>Def.app (by simp only [List.length_nil]; omega) (by simpa using h)
 rw [F145,Option.bind_some]
 refine Def.search (n:=(objs w).length) (m:=lowB (keys (objs w)) o.1) (by rw [← hlen]; exact lowB_le _ _) (by omega) (fun i j hij hj h1 h2=>?_) (.done ?_)
 ·simp only
  rw [shr_half (by omega)]
  have ew : IntKind.wrap .i64 (((i + j) / 2 : Nat) : Int) = (((i + j) / 2 : Nat) : Int):=wrap_i64 (by omega) (by omega)
  have ew2 : IntKind.wrap .i64 ((((i + j) / 2 : Nat) : Int) + 1) = (((i + j) / 2 : Nat) : Int) + 1:=wrap_i64 (by omega) (by omega)
  rw [Option.bind_some]
  simp only [ew,ew2]
  refine Def.bind (Def.idx (by omega) (by show _ < (((objs w).length : Nat) : Int); omega) (fun v hv _=>?_))
  simp only [Int.toNat_natCast] at hv
  have hlow:=lowB_lt hk o.1 _ v.1 (hge _ _ hv)
  rw [F145,Option.bind_some,F203_eq,Option.bind_some]
  refine Def.ite (fun hc=>.turn (.inl ⟨rfl,?_⟩)) (fun hc=>.turn (.inr ⟨rfl,?_⟩))
  ·refine hlow.1 ?_
   by_cases h : v.1 < o.1
   ·exact h
   ·by_cases h' : o.1 < v.1 <;> simp [h,h'] at hc
  ·have : ¬ v.1 < o.1:=fun h=>by simp [h] at hc
   exact Nat.le_of_not_lt fun h=>this (hlow.2 h)
 ·by_cases hlt : lowB (keys (objs w)) o.1 < (objs w).length
  ·have hg:=List.getElem?_eq_getElem hlt
   have hm:=lowB_mem hk (hge _ _ hg)
   have h1 : idxO (objs w) (lowB (keys (objs w)) o.1 : Int) = some (objs w)[lowB (keys (objs w)) o.1]:=by rw [idxO_nat,hg]
   have hd : decide (((lowB (keys (objs w)) o.1 : Nat) : Int) < (((objs w).length : Nat) : Int)) = true:=by simpa using hlt
   generalize ho : (objs w)[lowB (keys (objs w)) o.1] = v at h1 hm hg
   simp only [hd,h1,Bool.and_true,if_true,Option.bind_some,F145,F203_eq]
   refine Def.bind (hc0 ?_)
   by_cases he : v.1 = o.1
   ·have hx : ((if v.1 < o.1 then (-1 : Int) else if o.1 < v.1 then 1 else 0) == 0) = true:=by rw [he]; simp
    rw [hx]
    simp only [if_true,h1,Option.bind_some]
    rw [putL_set hp o v hg he,Option.bind_some]
    exact fin _ rfl
   ·have hno : ∀ x ∈ objs w,x.1 ≠ o.1:=fun x hx e=>he (hm.1 (List.mem_map.2 ⟨x,hx,e⟩))
    have hx : ((if v.1 < o.1 then (-1 : Int) else if o.1 < v.1 then 1 else 0) == 0) = false:=by
     by_cases h1 : v.1 < o.1
     ·simp [h1]
     ·by_cases h2 : o.1 < v.1
      ·simp [h1,h2]
      ·omega
    rw [hx]
    simp only [Bool.false_eq_true,if_false,Option.bind_some]
    rw [putL_ins hp o (by omega) hno,Option.bind_some]
    exact fin _ rfl
  ·have hd : decide (((lowB (keys (objs w)) o.1 : Nat) : Int) < (((objs w).length : Nat) : Int)) = false:=by simpa using hlt
   have hno : ∀ x ∈ objs w,x.1 ≠ o.1:=fun x hx e=>lowB_end hk (by rw [hlen]; omega) (List.mem_map.2 ⟨x,hx,e⟩)
   simp only [hd,Bool.false_and,Bool.false_eq_true,if_false,Option.bind_some]
   refine Def.bind (hc0 ?_)
   rw [putL_ins hp o (by omega) hno,Option.bind_some]
   exact fin _ rfl
structure Nice (w : D7) : Prop where
 few : (objs w).length ≤ 1000
 ids : Ris w
 lns : ∀ o ∈ objs w,(lnk o).length ≤ 1000
 lnk : ∀ o ∈ objs w,(Fn.lnk o).Pairwise (· < ·)
 dat : ∀ o ∈ objs w,(dat o).length ≤ 1000000
def roomF (l : List D6) (d : D6) : Int:=IntKind.wrap .i64 (quo d - usesF l (pages d) (lnk d))
def laidF (l : List D6) (d o : D6) : D6 × Int :=
 if placeB d.2.2.1 o.2.2.1 = false then (d,2)
 else if 64 ≤ (lnk d).length then (d,6)
 else if quo o > roomF l d ∨ 0 < (lnk o).length then (d,5)
 else (sett6_5_1 d (insL (lnk d) o.1),0)
structure NiceO (o : D6) : Prop where
 lns : (lnk o).length ≤ 1000
 lnk : (Fn.lnk o).Pairwise (· < ·)
 dat : (dat o).length ≤ 1000000
 lab : o.2.2.1.length ≤ 1000
 fit : FitL o.2.2.1
theorem F118_eq (w : D7) (d o : D6) (hw : Nice w) (hd : NiceO d) (ho : NiceO o) : F118 (sett11_0_4 (Ty.zero t11 : D11) w) d o = some (laidF (objs w) d o):=by
 refine Def.eq ?_
 unfold F118 laidF
 rw [F146_eq _ _ hd.lab ho.lab ho.fit,Option.bind_some]
 simp only [letJ_eq]
 cases hp : placeB d.2.2.1 o.2.2.1 with
 | false=>exact .ret rfl
 | true =>
  simp only [Bool.not_true,Bool.false_eq_true,if_false,Bool.true_eq_false]
  by_cases h64 : 64 ≤ (lnk d).length
  ·have h1 : ((lnk d).length : Int) ≥ 64:=by omega
   rw [if_pos h64,if_pos (by simpa using h1)]
   exact .ret rfl
  ·have h1 : ¬ ((lnk d).length : Int) ≥ 64:=by omega
   rw [if_neg h64,if_neg (by simpa using h1)]
   have e37:=F37_eq w d (by have:=hw.few; omega) hw.ids hd.dat hd.lns
   rw [e37,Option.bind_some]
   by_cases hr : quo o > roomF (objs w) d ∨ 0 < (lnk o).length
   ·rw [if_pos hr,if_pos]
    ·exact .ret rfl
    ·rcases hr with h | h
     ·rw [if_pos]
      unfold roomF at h
      simpa using h
     ·by_cases h' : decide (o.2.2.2.1 > IntKind.wrap .i64 (quo d - usesF (objs w) (pages d) (lnk d))) = true
      ·rw [if_pos h']
      ·rw [if_neg h']; simpa using h
   ·rw [if_neg hr,if_neg]
    ·have hlow:=insL_eq hd.lnk o.1 (by have:=hd.lns; omega)
     rw [F70_eq (lnk d) o.1 (by have:=hd.lns; omega) hd.lnk,Option.bind_some,Option.bind_some]
     refine Def.bind (Def.app (by have:=hd.lns; simp only [List.length_nil]; simp only [lnk] at this; omega) ?_)
     simp only [List.nil_append]
     rw [hlow,Option.bind_some]
     exact .ret rfl
    ·simp only [not_or,Int.not_lt] at hr
     unfold roomF at hr
     rw [if_neg (by simpa using hr.1)]
     simpa using hr.2
end Go.Fn
namespace Go.Fn
set_option linter.unusedVariables false
open Go Go.Ab Go.Tx
theorem zeroO_nice : NiceO (Ty.zero t6 : D6):=⟨by decide,List.Pairwise.nil,by decide,by decide,⟨List.Pairwise.nil,by intro p hp; cases hp⟩⟩
theorem findO_all {l : List D6} {Q : D6 → Prop} (h : ∀ o ∈ l,Q o) (h0 : Q (Ty.zero t6)) (id : Int) : Q (findO l id).1:=by
 cases hf : (findO l id).2 with
 | true=>exact h _ (findO_of hf).1
 | false =>
  have : (findO l id).1 = Ty.zero t6:=by
   unfold findO at hf ⊢
   cases hx : l.find? (fun o=>o.1 == id) with
   | none=>rfl
   | some o=>rw [hx] at hf; cases hf
  rw [this]; exact h0
theorem putW_objs {w : D7} {o : D6} (h : (objs w).length + 1 ≤ 1024) : objs (putW w o) = putL (objs w) o:=by
 have:=putL_len (objs w) o
 unfold putW
 rw [if_pos (by omega)]
theorem putW_ris {w : D7} (o : D6) (h : Ris w) : Ris (putW w o):=by
 unfold putW
 split
 ·exact putL_rise h o
 ·exact h
theorem putW_len (w : D7) (o : D6) : (objs (putW w o)).length ≤ (objs w).length + 1:=by
 unfold putW
 split
 ·exact putL_len _ _
 ·omega
def attachF (w : D7) (d : Int) (o : D6) : D7 × Int :=
 if (findO (objs w) d).2 = false then (w,1)
 else if (findO (objs w) d).1.2.1 ≠ 2 then (w,3)
 else if (findO (objs w) o.1).2 = true then (w,12)
 else if (laidF (objs w) (findO (objs w) d).1 o).2 ≠ 0 then (w,(laidF (objs w) (findO (objs w) d).1 o).2)
 else (putW (putW w o) (laidF (objs w) (findO (objs w) d).1 o).1,0)
theorem F51_eq (w : D7) (d : Int) (o : D6) (hw : Nice w) (hs : ∀ x ∈ objs w,NiceO x) (ho : NiceO o) : F51 w d o = some (attachF w d o):=by
 have hf:=hw.few
 refine Def.eq ?_
 unfold F51 attachF
 rw [F69_eq w d (by omega) hw.ids,Option.bind_some]
 simp only [letJ_eq]
 cases h1 : (findO (objs w) d).2 with
 | false=>exact .ret rfl
 | true =>
  simp only [Bool.not_true,Bool.false_eq_true,Bool.true_eq_false,if_false]
  by_cases h2 : (findO (objs w) d).1.2.1 = 2
  ·rw [if_neg (by simpa using h2),if_neg (by simpa using h2),F69_eq w o.1 (by omega) hw.ids,Option.bind_some]
   cases h3 : (findO (objs w) o.1).2 with
   | true=>exact .ret rfl
   | false =>
    simp only [Bool.false_eq_true,if_false]
    rw [F118_eq w _ o hw (findO_all hs zeroO_nice d) ho,Option.bind_some]
    by_cases h4 : (laidF (objs w) (findO (objs w) d).1 o).2 = 0
    ·rw [if_neg (by simpa using h4),if_neg (by simpa using h4),F74_eq w o (by omega) hw.ids,Option.bind_some,F74_eq _ _ (by have:=putW_len w o; omega) (putW_ris o hw.ids),Option.bind_some]
     exact .ret rfl
    ·rw [if_pos (by simpa using h4),if_pos h4]
     exact .ret rfl
  ·rw [if_pos (by simpa using h2),if_pos h2]
   exact .ret rfl
def wholeK (k : Int) : Bool:=k == 2 || k == 4
def linkF (w : D7) (d id : Int) : D7 × Int :=
 if (findO (objs w) d).2 = false ∨ (findO (objs w) id).2 = false then (w,1)
 else if (findO (objs w) d).1.2.1 ≠ 2 ∨ wholeK (findO (objs w) id).1.2.1 = true then (w,3)
 else if (findO (objs w) id).1.2.2.2.2.1 = false then (w,8)
 else if id ∈ lnk (findO (objs w) d).1 then (w,12)
 else if (laidF (objs w) (findO (objs w) d).1 (findO (objs w) id).1).2 ≠ 0 then (w,(laidF (objs w) (findO (objs w) d).1 (findO (objs w) id).1).2)
 else (putW w (laidF (objs w) (findO (objs w) d).1 (findO (objs w) id).1).1,0)
theorem F53_eq (w : D7) (d id : Int) (hw : Nice w) (hs : ∀ x ∈ objs w,NiceO x) : F53 w d id = some (linkF w d id):=by
 have hf:=hw.few
 have hd:=findO_all hs zeroO_nice d
 have hi:=findO_all hs zeroO_nice id
 refine Def.eq ?_
 unfold F53 linkF
 rw [F69_eq w d (by omega) hw.ids,Option.bind_some,F69_eq w id (by omega) hw.ids,Option.bind_some,F70_eq (lnk (findO (objs w) d).1) id (by have:=hd.lns; omega) hd.lnk,Option.bind_some]
 simp only [letJ_eq]
 generalize findO (objs w) d = c at hd
 generalize findO (objs w) id = o at hi
 by_cases h1 : c.2 = false ∨ o.2 = false
 ·rw [if_pos h1,if_pos]
  ·exact .ret rfl
  ·rcases h1 with h | h <;> simp [h]
 ·rw [if_neg h1]
  simp only [not_or,Bool.not_eq_false] at h1
  rw [if_neg (by simp [h1.1,h1.2])]
  refine Def.bindI (fun b=>b = wholeK o.1.2.1) (fun _=>?_) (fun v6 q6 n6=>?_)
  ·unfold F119 wholeK
   refine .ret ?_
   cases h : (o.1.2.1 == 2) <;> simp
  by_cases h2 : c.1.2.1 ≠ 2 ∨ wholeK o.1.2.1 = true
  ·rw [if_pos h2,if_pos]
   ·exact .ret rfl
   ·by_cases h : c.1.2.1 = 2
    ·have h' : wholeK o.1.2.1 = true:=by
      rcases h2 with h2 | h2
      ·exact absurd h h2
      ·exact h2
     rw [q6 (by simp [h]),h']
     simp
    ·simp [h]
  ·rw [if_neg h2]
   simp only [not_or,Decidable.not_not] at h2
   rw [if_neg (by rw [q6 (by simp [h2.1])]; simp [h2.1,h2.2])]
   cases h3 : o.1.2.2.2.2.1 with
   | false=>exact .ret rfl
   | true =>
    simp only [Bool.not_true,Bool.false_eq_true,Bool.true_eq_false,if_false]
    by_cases h4 : id ∈ lnk c.1
    ·rw [if_pos h4,if_pos (by simpa using h4)]
     exact .ret rfl
    ·rw [if_neg h4,if_neg (by simpa using h4),F118_eq w _ _ hw hd hi,Option.bind_some]
     by_cases h5 : (laidF (objs w) c.1 o.1).2 = 0
     ·rw [if_neg (by simpa using h5),if_neg (by simpa using h5),F74_eq w _ (by omega) hw.ids,Option.bind_some]
      exact .ret rfl
     ·rw [if_pos (by simpa using h5),if_pos h5]
      exact .ret rfl
def moveF (w : D7) (d id n : Int) : D7 × Int :=
 if (findO (objs w) d).2 = false ∨ (findO (objs w) id).2 = false ∨ id ∉ lnk (findO (objs w) d).1 then (w,1)
 else if (findO (objs w) id).1.2.2.2.2.1 = true then (w,8)
 else if n < -4096 ∨ 4096 < n then (w,4)
 else if n > roomF (objs w) (findO (objs w) d).1 ∨ IntKind.wrap .i64 (quo (findO (objs w) id).1 + n) < max 1 (usesF (objs w) (pages (findO (objs w) id).1) (lnk (findO (objs w) id).1)) ∨ IntKind.wrap .i64 (quo (findO (objs w) id).1 + n) > 4096 then (w,5)
 else (putW w (sett6_3_1 (findO (objs w) id).1 (IntKind.wrap .i64 (quo (findO (objs w) id).1 + n))),0)
theorem F54_eq (w : D7) (d id n : Int) (hw : Nice w) (hs : ∀ x ∈ objs w,NiceO x) : F54 w d id n = some (moveF w d id n):=by
 have hf:=hw.few
 have hd:=findO_all hs zeroO_nice d
 have hi:=findO_all hs zeroO_nice id
 refine Def.eq ?_
 unfold F54 moveF
 rw [F69_eq w d (by omega) hw.ids,Option.bind_some,F69_eq w id (by omega) hw.ids,Option.bind_some,F70_eq (lnk (findO (objs w) d).1) id (by have:=hd.lns; omega) hd.lnk,Option.bind_some]
 simp only [letJ_eq,letV_eq]
 generalize findO (objs w) d = c at hd
 generalize findO (objs w) id = o at hi
 by_cases h1 : c.2 = false ∨ o.2 = false ∨ id ∉ lnk c.1
 ·rw [if_pos h1,if_pos]
  ·exact .ret rfl
  ·rcases h1 with h | h | h
   ·simp [h]
   ·simp [h]
   ·have h' : decide (id ∈ lnk c.1) = false:=by simpa using h
    rw [h']; simp
 ·rw [if_neg h1]
  simp only [not_or,Bool.not_eq_false,Decidable.not_not] at h1
  have h' : decide (id ∈ lnk c.1) = true:=by simpa using h1.2.2
  rw [if_neg (by rw [h']; simp [h1.1,h1.2.1])]
  cases h3 : o.1.2.2.2.2.1 with
  | true=>exact .ret rfl
  | false =>
   simp only [Bool.false_eq_true,if_false]
   by_cases h4 : n < -4096 ∨ 4096 < n
   ·rw [if_pos h4,if_pos]
    ·exact .ret rfl
    ·rcases h4 with h | h
     ·simp [h]
     ·by_cases h6 : n < -4096 <;> simp [h,h6]
   ·rw [if_neg h4]
    simp only [not_or,Int.not_lt] at h4
    rw [if_neg (by simp; omega)]
    rw [F37_eq w c.1 (by omega) hw.ids hd.dat hd.lns,Option.bind_some]
    refine Def.bindI (fun b=>b = usesF (objs w) (pages o.1) (lnk o.1)) (fun _=>Def.of (F35_eq w o.1 (by omega) hw.ids hi.dat hi.lns) rfl) (fun v8 q8 _=>?_)
    have hm : ∀ x : Int,(if decide (x > 1) = true then x else 1) = max 1 x:=fun x=>by
     by_cases h : x > 1
     ·rw [if_pos (by simpa using h)]; omega
     ·rw [if_neg (by simpa using h)]; omega
    rw [hm]
    unfold roomF
    by_cases h7 : n > IntKind.wrap .i64 (quo c.1 - usesF (objs w) (pages c.1) (lnk c.1))
    ·rw [if_pos (by simp [h7])]
     exact .ret (by rw [if_pos (Or.inl h7)])
    ·have q:=q8 (by simp [h7])
     subst q
     have d7 : decide (n > IntKind.wrap .i64 (quo c.1 - usesF (objs w) (pages c.1) (lnk c.1))) = false:=by simpa using h7
     rw [d7]
     simp only [Bool.false_eq_true,if_false]
     by_cases h8 : IntKind.wrap .i64 (quo o.1 + n) < max 1 (usesF (objs w) (pages o.1) (lnk o.1))
     ·rw [if_pos (by rw [decide_eq_true h8]; simp)]
      exact .ret (by rw [if_pos (Or.inr (Or.inl h8))])
     ·rw [decide_eq_false h8]
      simp only [Bool.false_eq_true,if_false]
      by_cases h9 : IntKind.wrap .i64 (quo o.1 + n) > 4096
      ·rw [if_pos (by simpa using h9)]
       exact .ret (by rw [if_pos (Or.inr (Or.inr h9))])
      ·rw [if_neg (by simpa using h9),F74_eq w _ (by omega) hw.ids,Option.bind_some]
       refine .ret ?_
       rw [if_neg]
       rintro (h | h | h)
       ·exact h7 h
       ·exact h8 h
       ·exact h9 h
theorem F39_eq (w : D7) (id : Int) (hw : Nice w) : F39 w id = some (holders (objs w) id):=by
 have hf:=hw.few
 refine Def.eq ?_
 unfold F39
 simp only [letJ_eq]
 refine Def.forB (l:=objs w) (fun s : Int × List Int=>s.1) (fun pre s=>s.2 = holders pre id) (by omega) rfl rfl (fun pre v post s e hs hi=>?_) (fun s hs hi=>.done (.ret hi))
 have hv : v ∈ objs w:=by rw [e]; simp
 rw [hs]
 refine Def.bind' (Def.at e) (fun u hu=>?_)
 subst hu
 have hn : pre.length < (objs w).length:=by rw [e]; simp
 rw [F70_eq (lnk u) id (by have:=hw.lns u hv; omega) (hw.lnk u hv),Option.bind_some]
 by_cases hm : id ∈ lnk u
 ·simp only [hm,decide_true,if_true,Option.bind_some]
  have hh:=holders_len pre id
  rw [hi]
  refine Def.bind (Def.app (by simp only [List.length_cons,List.length_nil]; omega) (.turn ⟨rfl,?_⟩))
  have : (lnk u).contains id = true:=by simpa using hm
  rw [holders_app]
  simp only [holders,List.filter_cons,this,List.filter_nil,if_true,List.map_cons,List.map_nil]
 ·simp only [hm,decide_false,Bool.false_eq_true,if_false]
  refine .turn ⟨rfl,?_⟩
  have : (lnk u).contains id = false:=by simpa using hm
  simp only [hi,holders_app]
  simp only [holders,List.filter_cons,this,List.filter_nil,List.map_nil,List.append_nil]
  simp
end Go.Fn
namespace Go.Fn
set_option linter.unusedVariables false
open Go Go.Ab Go.Tx
theorem F52_true (w v : D7) (d n : Int) (hw : Nice w) (hv : Nice v) (h : ∀ o ∈ objs w,∃ x ∈ objs v,x.1 = o.1 ∧ usesF (objs v) (pages x) (lnk x) = IntKind.wrap .i64 (usesF (objs w) (pages o) (lnk o) + if o.1 = d then n else 0)) : F52 w v d n = some true:=by
 have hf:=hw.few
 have hg:=hv.few
 refine Def.eq ?_
 unfold F52
 simp only [letJ_eq]
 refine Def.for1 (l:=objs w) (fun _=>True) (by omega) trivial (fun pre o post e _=>?_) (fun _=>.done (.ret rfl))
 have ho : o ∈ objs w:=by rw [e]; simp
 obtain ⟨x,hx,e1,e2⟩:=h o ho
 rw [F43_eq v _ (by omega),Option.bind_some,← e1,findO_mem hv.ids x hx,e1]
 have a1:=F35_eq v x (by omega) hv.ids (hv.dat x hx) (hv.lns x hx)
 have a2:=F35_eq w o (by omega) hw.ids (hw.dat o ho) (hw.lns o ho)
 simp only [Bool.not_true,Bool.not_false,Bool.and_self,if_true,a1,a2,Option.bind_some,Bool.false_eq_true,if_false]
 by_cases hd : o.1 = d
 ·rw [if_pos (by simpa using hd)]
  rw [if_pos hd] at e2
  rw [if_neg (by rw [e2]; simp)]
  exact .turn ⟨rfl,trivial⟩
 ·rw [if_neg (by simpa using hd)]
  rw [if_neg hd] at e2
  rw [if_neg (by rw [e2]; simp)]
  exact .turn ⟨rfl,trivial⟩
theorem quoF_mem {l : List D6} (hp : l.Pairwise (fun a b=>a.1 < b.1)) {o : D6} (ho : o ∈ l) : quoF l o.1 = quo o:=by
 rw [quoF,findO_mem hp o ho]
theorem quoF_none {l : List D6} {id : Int} (h : ∀ o ∈ l,o.1 ≠ id) : quoF l id = 0:=by
 rw [quoF,findO_none h]; rfl
theorem tot_filter (f : Int → Int) (p : Int → Bool) : ∀ l : List Int,tot ((l.filter p).map f) + tot ((l.filter fun x=>!p x).map f) = tot (l.map f)
 | []=>rfl
 | a :: l=>by
  have ih:=tot_filter f p l
  cases h : p a <;> simp only [List.filter_cons,h,Bool.not_true,Bool.not_false,if_true,if_false,Bool.false_eq_true,List.map_cons,tot] <;> omega
theorem tot_insL (f : Int → Int) (l : List Int) (t : Int) : tot ((insL l t).map f) = tot (l.map f) + f t:=by
 have:=tot_filter f (fun o=>decide (o < t)) l
 unfold insL
 rw [List.map_append,tot_app,List.map_cons,tot]
 omega
theorem tot_congr {f g : Int → Int} {l : List Int} (h : ∀ x ∈ l,f x = g x) : tot (l.map f) = tot (l.map g):=by
 rw [List.map_congr_left h]
theorem tot_one {f g : Int → Int} {id n : Int} (h1 : g id = f id + n) (h2 : ∀ x,x ≠ id → g x = f x) : ∀ l : List Int,l.Pairwise (· < ·) → tot (l.map g) = tot (l.map f) + if id ∈ l then n else 0
 | [],_=>by simp [tot]
 | a :: l,hp=>by
  obtain ⟨q1,q2⟩:=List.pairwise_cons.1 hp
  have ih:=tot_one h1 h2 l q2
  simp only [List.map_cons,tot]
  by_cases e : a = id
  ·subst e
   have hn : a ∉ l:=fun hm=>by have:=q1 a hm; omega
   rw [if_neg hn] at ih
   rw [if_pos (by simp),h1]
   omega
  ·rw [h2 a e]
   by_cases hm : id ∈ l
   ·rw [if_pos hm] at ih
    rw [if_pos (by simp [hm])]
    omega
   ·rw [if_neg hm] at ih
    rw [if_neg (by simp [hm]; exact fun h=>e h.symm)]
    omega
theorem nice_of {w : D7} {root : Int} (h : Whole (objs w) root) : Nice w:={
 few:=by have:=h.few; omega
 ids:=h.ids
 lns:=fun o ho=>by have:=h.lns o ho; omega
 lnk:=h.lnk
 dat:=fun o ho=>by have:=h.dat o ho; omega }
theorem niceO_of {o : D6} (h : Snd6 o) : NiceO o:={
 lns:=by have:=h.lns; omega
 lnk:=h.lnk
 dat:=by
  by_cases e : o.2.1 = 1
  ·have:=h.seg e; have:=h.quo; omega
  ·rw [h.dat e]; simp
 lab:=by have:=h.lab; omega
 fit:=h.fit }
theorem one_holder {l : List D6} (hp : l.Pairwise (fun a b=>a.1 < b.1)) {id : Int} {c : D6} (hc : c ∈ l) (hi : id ∈ lnk c) (h : ∀ x ∈ l,id ∈ lnk x → x.1 = c.1) : holders l id = [c.1]:=by
 obtain ⟨s,t,e⟩:=List.append_of_mem hc
 have hp':=hp
 rw [e,List.pairwise_append,List.pairwise_cons] at hp'
 obtain ⟨_,⟨h2,_⟩,h3⟩:=hp'
 have e1 : holders s id = []:=by
  cases hh : holders s id with
  | nil=>rfl
  | cons a r =>
   obtain ⟨x,hx,hi,_⟩:=mem_holders.1 (by rw [hh]; exact List.mem_cons_self : a ∈ holders s id)
   have q1:=h x (by rw [e]; simp [hx]) hi
   have q2:=h3 x hx c (by simp)
   omega
 have e2 : holders t id = []:=by
  cases hh : holders t id with
  | nil=>rfl
  | cons a r =>
   obtain ⟨x,hx,hi,_⟩:=mem_holders.1 (by rw [hh]; exact List.mem_cons_self : a ∈ holders t id)
   have q1:=h x (by rw [e]; simp [hx]) hi
   have q2:=h2 x hx
   omega
 have e3 : holders (c :: t) id = c.1 :: holders t id:=by
  have : (lnk c).contains id = true:=by simpa using hi
  simp only [holders,List.filter_cons,this,if_true,List.map_cons]
 rw [e,holders_app,e1,e3,e2]
 rfl
theorem use_small {l : List D6} (hb : ∀ id,0 ≤ quoF l id ∧ quoF l id ≤ 4096) {o : D6} (hd : (dat o).length ≤ 1000000) (hk : (lnk o).length ≤ 1000) : usesF l (pages o) (lnk o) = useS l o ∧ 0 ≤ useS l o ∧ useS l o ≤ 10000000:=by
 have hp : 1 ≤ pages o ∧ pages o ≤ 62502:=by unfold pages; constructor <;> omega
 have e : usesF l (pages o) (lnk o) = useS l o:=usesF_eq hb _ _ (by omega) (by omega)
 have ht : ∀ ks : List Int,0 ≤ tot (ks.map (quoF l)) ∧ tot (ks.map (quoF l)) ≤ ks.length * 4096:=by
  intro ks
  induction ks with
  | nil=>simp [tot]
  | cons a ks ih=>have:=hb a; simp only [List.map_cons,tot,List.length_cons]; omega
 have:=ht (lnk o)
 refine ⟨e,?_,?_⟩ <;> unfold useS <;> omega
theorem quoF_le {l : List D6} (hp : l.Pairwise (fun a b=>a.1 < b.1)) (h : ∀ o ∈ l,0 ≤ quo o ∧ quo o ≤ 4096) (id : Int) : 0 ≤ quoF l id ∧ quoF l id ≤ 4096:=by
 by_cases hx : ∃ o ∈ l,o.1 = id
 ·obtain ⟨o,ho,rfl⟩:=hx
  rw [quoF_mem hp ho]; exact h o ho
 ·rw [quoF_none fun o ho e=>hx ⟨o,ho,e⟩]; omega
theorem charge {w v : D7} {d n : Int} (hw : Nice w) (hv : Nice v) (bw : ∀ id,0 ≤ quoF (objs w) id ∧ quoF (objs w) id ≤ 4096) (bv : ∀ id,0 ≤ quoF (objs v) id ∧ quoF (objs v) id ≤ 4096)
  (h : ∀ o ∈ objs w,∃ x ∈ objs v,x.1 = o.1 ∧ useS (objs v) x = useS (objs w) o + if o.1 = d then n else 0) : F52 w v d n = some true:=by
 refine F52_true w v d n hw hv fun o ho=>?_
 obtain ⟨x,hx,e1,e2⟩:=h o ho
 obtain ⟨a1,a2,a3⟩:=use_small bw (hw.dat o ho) (hw.lns o ho)
 obtain ⟨b1,b2,b3⟩:=use_small bv (hv.dat x hx) (hv.lns x hx)
 refine ⟨x,hx,e1,?_⟩
 rw [a1,b1,e2,wrap_i64 (by omega) (by omega)]
theorem laid_ok {l : List D6} {d o : D6} (h : (laidF l d o).2 = 0) : (laidF l d o).1 = sett6_5_1 d (insL (lnk d) o.1) ∧ placeB d.2.2.1 o.2.2.1 = true ∧ (lnk d).length < 64 ∧ quo o ≤ roomF l d ∧ lnk o = []:=by
 unfold laidF at h ⊢
 split at h
 ·cases h
 ·rename_i h1
  split at h
  ·cases h
  ·rename_i h2
   split at h
   ·cases h
   ·rename_i h3
    simp only [not_or,Int.not_lt] at h3
    rw [if_neg h1,if_neg h2,if_neg (by simp only [not_or,Int.not_lt]; exact h3)]
    exact ⟨rfl,by simpa using h1,by omega,by omega,List.length_eq_zero_iff.1 (by omega)⟩
theorem same_of {l : List D6} (hp : l.Pairwise (fun a b=>a.1 < b.1)) {x y : D6} (hx : x ∈ l) (hy : y ∈ l) (e : x.1 = y.1) : x = y:=by
 have h1:=findO_mem hp x hx
 have h2:=findO_mem hp y hy
 rw [e,h2] at h1
 exact (congrArg Prod.fst h1).symm
theorem attach_holds {w v : D7} {d root : Int} {o : D6} (hW : Whole (objs w) root) (ho : Snd6 o) (e : attachF w d o = (v,0)) : F39 v o.1 = some [d] ∧ F52 w v d (quo o) = some true:=by
 have hN:=nice_of hW
 unfold attachF at e
 split at e
 ·cases e
 rename_i h1
 split at e
 ·cases e
 rename_i h2
 split at e
 ·cases e
 rename_i h3
 split at e
 ·rename_i h4; exact absurd (congrArg Prod.snd e) h4
 rename_i h4
 simp only [Bool.not_eq_false] at h1
 obtain ⟨hcm,hcd⟩:=findO_of h1
 have hno : ∀ x ∈ objs w,x.1 ≠ o.1:=fun x hx ex=>by
  apply h3
  rw [← ex,findO_mem hW.ids x hx]
 generalize hc : (findO (objs w) d).1 = c at *
 simp only [Decidable.not_not] at h4
 obtain ⟨e1,hpl,h64,hroom,hlo⟩:=laid_ok h4
 rw [e1] at e
 have hv : v = putW (putW w o) (sett6_5_1 c (insL (lnk c) o.1)):=(congrArg Prod.fst e).symm
 have hf:=hW.few
 have p1:=putW_len w o
 have o1 : objs (putW w o) = putL (objs w) o:=putW_objs (by omega)
 have o2 : objs v = putL (putL (objs w) o) (sett6_5_1 c (insL (lnk c) o.1)):=by rw [hv,putW_objs (by omega),o1]
 have hr : (objs v).Pairwise (fun a b=>a.1 < b.1):=by rw [o2]; exact putL_rise (putL_rise hW.ids o) _
 have hoc : o.1 ≠ c.1:=fun e=>hno c hcm e.symm
 have hm : ∀ x,x ∈ objs v ↔ x = sett6_5_1 c (insL (lnk c) o.1) ∨ (x = o ∨ x ∈ objs w ∧ x.1 ≠ o.1) ∧ x.1 ≠ c.1:=fun x=>by rw [o2,mem_putL,mem_putL]
 have hlc : o.1 ∉ lnk c:=fun hi=>by obtain ⟨y,hy,ey⟩:=hW.has c hcm _ hi; exact hno y hy ey
 have hV : Nice v:={
  few:=by have:=putL_len (objs w) o; have:=putL_len (putL (objs w) o) (sett6_5_1 c (insL (lnk c) o.1)); rw [o2]; omega
  ids:=hr
  lns:=fun x hx=>by
   rcases (hm x).1 hx with rfl | ⟨rfl | ⟨h,_⟩,_⟩
   ·have:=insL_len (lnk c) o.1
    show (insL (lnk c) o.1).length ≤ 1000
    omega
   ·rw [hlo]; simp
   ·exact hN.lns x h
  lnk:=fun x hx=>by
   rcases (hm x).1 hx with rfl | ⟨rfl | ⟨h,_⟩,_⟩
   ·exact insL_rise (hW.lnk c hcm) hlc
   ·rw [hlo]; exact List.Pairwise.nil
   ·exact hW.lnk x h
  dat:=fun x hx=>by
   rcases (hm x).1 hx with rfl | ⟨rfl | ⟨h,_⟩,_⟩
   ·exact hN.dat c hcm
   ·exact (niceO_of ho).dat
   ·exact hN.dat x h }
 have hcv : sett6_5_1 c (insL (lnk c) o.1) ∈ objs v:=(hm _).2 (.inl rfl)
 have bw:=quoF_bd hW
 have bv : ∀ id,0 ≤ quoF (objs v) id ∧ quoF (objs v) id ≤ 4096:=quoF_le hr fun x hx=>by
  rcases (hm x).1 hx with rfl | ⟨rfl | ⟨h,_⟩,_⟩
  ·have:=hW.quo c hcm; exact ⟨by show 0 ≤ quo c; omega,this.2⟩
  ·have:=ho.quo; omega
  ·have:=hW.quo x h; omega
 have hq : ∀ id,(∃ y ∈ objs w,y.1 = id) → quoF (objs v) id = quoF (objs w) id:=by
  rintro id ⟨y,hy,rfl⟩
  rw [quoF_mem hW.ids hy]
  by_cases ey : y.1 = c.1
  ·have h1 : quoF (objs v) c.1 = quo c:=quoF_mem (o:=sett6_5_1 c (insL (lnk c) o.1)) hr hcv
   rw [ey,h1,same_of hW.ids hcm hy ey.symm]
  ·exact quoF_mem hr ((hm y).2 (.inr ⟨.inr ⟨hy,hno y hy⟩,ey⟩))
 have hov : o ∈ objs v:=(hm o).2 (.inr ⟨.inl rfl,hoc⟩)
 refine ⟨?_,charge hN hV bw bv fun x hx=>?_⟩
 ·rw [F39_eq v o.1 hV,one_holder hr hcv (mem_insL.2 (.inl rfl)) (fun x hx hi=>?_)]
  ·show some [c.1] = some [d]; rw [hcd]
  ·rcases (hm x).1 hx with rfl | ⟨rfl | ⟨h,_⟩,_⟩
   ·rfl
   ·rw [hlo] at hi; cases hi
   ·obtain ⟨y,hy,ey⟩:=hW.has x h _ hi; exact absurd ey (hno y hy)
 ·by_cases ex : x.1 = c.1
  ·have h2:=findO_mem hW.ids x hx
   have h3:=findO_mem hW.ids c hcm
   rw [ex,h3] at h2
   have exc : c = x:=congrArg Prod.fst h2
   subst exc
   refine ⟨_,hcv,rfl,?_⟩
   rw [if_pos hcd]
   show pages c + tot ((insL (lnk c) o.1).map (quoF (objs v))) = pages c + tot ((lnk c).map (quoF (objs w))) + quo o
   rw [tot_insL,quoF_mem hr hov,tot_congr (fun y hy=>hq y (hW.has c hcm y hy))]
   omega
  ·refine ⟨x,(hm x).2 (.inr ⟨.inr ⟨hx,hno x hx⟩,ex⟩),rfl,?_⟩
   rw [if_neg (by rw [← hcd]; exact ex)]
   unfold useS
   rw [tot_congr (fun y hy=>hq y (hW.has x hx y hy))]
   omega
theorem link_holds {w v : D7} {d id root : Int} (hW : Whole (objs w) root) (e : linkF w d id = (v,0)) : F52 w v d (quo (findO (objs w) id).1) = some true:=by
 have hN:=nice_of hW
 unfold linkF at e
 split at e
 ·cases e
 rename_i h1
 split at e
 ·cases e
 rename_i h2
 split at e
 ·cases e
 rename_i h3
 split at e
 ·cases e
 rename_i h5
 split at e
 ·rename_i h4; exact absurd (congrArg Prod.snd e) h4
 rename_i h4
 simp only [not_or,Bool.not_eq_false] at h1
 obtain ⟨hcm,hcd⟩:=findO_of h1.1
 obtain ⟨hom,hod⟩:=findO_of h1.2
 generalize hc : (findO (objs w) d).1 = c at *
 generalize hc : (findO (objs w) id).1 = o at *
 simp only [Decidable.not_not] at h4
 obtain ⟨e1,hpl,h64,hroom,hlo⟩:=laid_ok h4
 rw [e1] at e
 have hv : v = putW w (sett6_5_1 c (insL (lnk c) o.1)):=(congrArg Prod.fst e).symm
 have hf:=hW.few
 have o2 : objs v = putL (objs w) (sett6_5_1 c (insL (lnk c) o.1)):=by rw [hv,putW_objs (by omega)]
 have hr : (objs v).Pairwise (fun a b=>a.1 < b.1):=by rw [o2]; exact putL_rise hW.ids _
 have hm : ∀ x,x ∈ objs v ↔ x = sett6_5_1 c (insL (lnk c) o.1) ∨ x ∈ objs w ∧ x.1 ≠ c.1:=fun x=>by rw [o2,mem_putL]
 have hlc : o.1 ∉ lnk c:=by rw [hod]; exact h5
 have hV : Nice v:={
  few:=by have:=putL_len (objs w) (sett6_5_1 c (insL (lnk c) o.1)); rw [o2]; omega
  ids:=hr
  lns:=fun x hx=>by
   rcases (hm x).1 hx with rfl | ⟨h,_⟩
   ·have:=insL_len (lnk c) o.1
    show (insL (lnk c) o.1).length ≤ 1000
    omega
   ·exact hN.lns x h
  lnk:=fun x hx=>by
   rcases (hm x).1 hx with rfl | ⟨h,_⟩
   ·exact insL_rise (hW.lnk c hcm) hlc
   ·exact hW.lnk x h
  dat:=fun x hx=>by
   rcases (hm x).1 hx with rfl | ⟨h,_⟩
   ·exact hN.dat c hcm
   ·exact hN.dat x h }
 have hcv : sett6_5_1 c (insL (lnk c) o.1) ∈ objs v:=(hm _).2 (.inl rfl)
 have bw:=quoF_bd hW
 have bv : ∀ id,0 ≤ quoF (objs v) id ∧ quoF (objs v) id ≤ 4096:=quoF_le hr fun x hx=>by
  rcases (hm x).1 hx with rfl | ⟨h,_⟩
  ·have:=hW.quo c hcm; exact ⟨by show 0 ≤ quo c; omega,this.2⟩
  ·have:=hW.quo x h; omega
 have hq : ∀ id,(∃ y ∈ objs w,y.1 = id) → quoF (objs v) id = quoF (objs w) id:=by
  rintro id ⟨y,hy,rfl⟩
  rw [quoF_mem hW.ids hy]
  by_cases ey : y.1 = c.1
  ·have h1 : quoF (objs v) c.1 = quo c:=quoF_mem (o:=sett6_5_1 c (insL (lnk c) o.1)) hr hcv
   rw [ey,h1,same_of hW.ids hcm hy ey.symm]
  ·exact quoF_mem hr ((hm y).2 (.inr ⟨hy,ey⟩))
 refine charge hN hV bw bv fun x hx=>?_
 by_cases ex : x.1 = c.1
 ·have exc:=same_of hW.ids hcm hx ex.symm
  subst exc
  refine ⟨_,hcv,rfl,?_⟩
  rw [if_pos hcd]
  show pages c + tot ((insL (lnk c) o.1).map (quoF (objs v))) = pages c + tot ((lnk c).map (quoF (objs w))) + quo o
  rw [tot_insL,hq o.1 ⟨o,hom,rfl⟩,quoF_mem hW.ids hom,tot_congr (fun y hy=>hq y (hW.has c hcm y hy))]
  omega
 ·refine ⟨x,(hm x).2 (.inr ⟨hx,ex⟩),rfl,?_⟩
  rw [if_neg (by rw [← hcd]; exact ex)]
  unfold useS
  rw [tot_congr (fun y hy=>hq y (hW.has x hx y hy))]
  omega
theorem move_holds {w v : D7} {d id n root : Int} (hW : Whole (objs w) root) (e : moveF w d id n = (v,0)) : F52 w v d n = some true ∧ F43 v id = some (sett6_3_1 (findO (objs w) id).1 (IntKind.wrap .i64 (quo (findO (objs w) id).1 + n)),true):=by
 have hN:=nice_of hW
 unfold moveF at e
 split at e
 ·cases e
 rename_i h1
 split at e
 ·cases e
 rename_i h2
 split at e
 ·cases e
 rename_i h3
 split at e
 ·cases e
 rename_i h4
 simp only [not_or,Bool.not_eq_false,Decidable.not_not] at h1
 obtain ⟨g1,g2,hidc⟩:=h1
 obtain ⟨hcm,hcd⟩:=findO_of g1
 obtain ⟨hom,hod⟩:=findO_of g2
 generalize hc : (findO (objs w) d).1 = c at *
 generalize hc : (findO (objs w) id).1 = o at *
 simp only [not_or,Int.not_lt,gt_iff_lt] at h3 h4
 have hqo:=hW.quo o hom
 rw [wrap_i64 (x:=quo o + n) (by omega) (by omega)] at h4 e ⊢
 obtain ⟨_,h5,h6⟩:=h4
 have hv : v = putW w (sett6_3_1 o (quo o + n)):=(congrArg Prod.fst e).symm
 have hf:=hW.few
 have o2 : objs v = putL (objs w) (sett6_3_1 o (quo o + n)):=by rw [hv,putW_objs (by omega)]
 have hr : (objs v).Pairwise (fun a b=>a.1 < b.1):=by rw [o2]; exact putL_rise hW.ids _
 have hm : ∀ x,x ∈ objs v ↔ x = sett6_3_1 o (quo o + n) ∨ x ∈ objs w ∧ x.1 ≠ o.1:=fun x=>by rw [o2,mem_putL]
 have hV : Nice v:={
  few:=by have:=putL_len (objs w) (sett6_3_1 o (quo o + n)); rw [o2]; omega
  ids:=hr
  lns:=fun x hx=>by
   rcases (hm x).1 hx with rfl | ⟨h,_⟩
   ·exact hN.lns o hom
   ·exact hN.lns x h
  lnk:=fun x hx=>by
   rcases (hm x).1 hx with rfl | ⟨h,_⟩
   ·exact hW.lnk o hom
   ·exact hW.lnk x h
  dat:=fun x hx=>by
   rcases (hm x).1 hx with rfl | ⟨h,_⟩
   ·exact hN.dat o hom
   ·exact hN.dat x h }
 have hov : sett6_3_1 o (quo o + n) ∈ objs v:=(hm _).2 (.inl rfl)
 have bw:=quoF_bd hW
 have bv : ∀ id,0 ≤ quoF (objs v) id ∧ quoF (objs v) id ≤ 4096:=quoF_le hr fun x hx=>by
  rcases (hm x).1 hx with rfl | ⟨h,_⟩
  ·exact ⟨by show 0 ≤ quo o + n; omega,h6⟩
  ·have:=hW.quo x h; omega
 have q1 : quoF (objs v) id = quoF (objs w) id + n:=by
  have h1 : quoF (objs v) o.1 = quo o + n:=quoF_mem (o:=sett6_3_1 o (quo o + n)) hr hov
  have h2 : quoF (objs w) o.1 = quo o:=quoF_mem hW.ids hom
  rw [← hod,h1,h2]
 have q2 : ∀ y,y ≠ id → quoF (objs v) y = quoF (objs w) y:=by
  intro y hy
  by_cases hx : ∃ x ∈ objs w,x.1 = y
  ·obtain ⟨x,hx,rfl⟩:=hx
   rw [quoF_mem hW.ids hx,quoF_mem hr ((hm x).2 (.inr ⟨hx,by rw [hod]; exact hy⟩))]
  ·rw [quoF_none fun x hx' e=>hx ⟨x,hx',e⟩,quoF_none fun x hx' e=>?_]
   rcases (hm x).1 hx' with rfl | ⟨h,_⟩
   ·exact hy (by rw [← hod]; exact e.symm)
   ·exact hx ⟨x,h,e⟩
 have alone : ∀ x ∈ objs w,id ∈ lnk x → x.1 = c.1:=by
  intro x hx hi
  have hp:=hW.placed o hom
  have m1 : x.1 ∈ holders (objs w) o.1:=mem_holders.2 ⟨x,hx,by rw [hod]; exact hi,rfl⟩
  have m2 : c.1 ∈ holders (objs w) o.1:=mem_holders.2 ⟨c,hcm,by rw [hod]; exact hidc,rfl⟩
  unfold placedB at hp
  simp only at hp
  generalize hh : holders (objs w) o.1 = hs at *
  by_cases hroot : o.1 = root
  ·rw [if_pos hroot] at hp
   simp only [Bool.and_eq_true,beq_iff_eq] at hp
   rw [List.length_eq_zero_iff.1 hp.1] at m1; cases m1
  ·rw [if_neg hroot] at hp
   split at hp
   ·cases hp
   ·rename_i hn
    simp only [not_or,not_and] at hn
    have h2' : o.2.2.2.2.1 = false:=by simpa using h2
    have hl1 : hs.length ≤ 1:=by
     by_cases h : 1 < hs.length
     ·exact absurd h2' (hn.2 h).1
     ·omega
    match hs,hl1,m1,m2 with
    | [a],_,m1,m2=>simp at m1 m2; rw [m1,m2]
 refine ⟨charge hN hV bw bv fun x hx=>?_,?_⟩
 ·have key : tot ((lnk x).map (quoF (objs v))) = tot ((lnk x).map (quoF (objs w))) + if x.1 = d then n else 0:=by
   rw [tot_one q1 q2 (lnk x) (hW.lnk x hx)]
   by_cases ex : x.1 = d
   ·have exc:=same_of hW.ids hx hcm (by rw [ex,hcd])
    rw [if_pos ex,if_pos (by rw [exc]; exact hidc)]
   ·rw [if_neg ex,if_neg fun hi=>ex (by rw [alone x hx hi,hcd])]
  by_cases ex : x.1 = o.1
  ·have exo:=same_of hW.ids hx hom ex
   subst exo
   refine ⟨_,hov,rfl,?_⟩
   show pages x + tot ((lnk x).map (quoF (objs v))) = pages x + tot ((lnk x).map (quoF (objs w))) + _
   omega
  ·refine ⟨x,(hm x).2 (.inr ⟨hx,ex⟩),rfl,?_⟩
   unfold useS
   omega
 ·rw [F43_eq v id hV.few,← hod]
  have:=findO_mem hr _ hov
  exact congrArg some this
end Go.Fn
namespace Go.Fn
set_option linter.unusedVariables false
open Go Go.Ab Go.Tx
theorem F8_true (w : D7) (o : D6) (d id n : Int) (hw : wfT t7 w) (ho : wfT t6 o) : F8 w o d id n = some true:=by
 obtain ⟨_,hok⟩:=ok_of hw
 refine Def.eq ?_
 unfold F8
 refine Def.bind' (F30_def w) (fun v1 q1=>?_)
 refine Def.bindI _ (fun hc=>F33_def w (q1 (by simpa using hc)).1 (q1 (by simpa using hc)).2 hok) (fun v2 q2 n2=>?_)
 refine Def.bindI _ (fun hc=>F34_def o (okO_of ho)) (fun v3 q3 n3=>?_)
 refine Def.ite (fun _=>Def.bind (Def.of awake14 (.ret rfl))) (fun hc=>?_)
 simp at hc
 obtain ⟨⟨⟨rfl,rfl⟩,rfl⟩,hl0⟩:=hc
 obtain ⟨hW,hS⟩:=q2 rfl rfl
 have hO:=q3 rfl rfl
 have hN:=nice_of hW
 have hs : ∀ x ∈ objs w,NiceO x:=fun x hx=>niceO_of (hS x hx)
 have hf:=hW.few
 rw [F51_eq w d o hN hs (niceO_of hO),Option.bind_some]
 refine Def.letJ (fun _=>True) (fun _ _=>?_) (fun j hj=>?_)
 ·rw [F43_eq w id (by omega),Option.bind_some,F53_eq w d id hN hs,Option.bind_some]
  have a1 : Def (if ((linkF w d id).2 == (0 : Int) && true) = true then F52 w (linkF w d id).1 d (findO (objs w) id).1.2.2.2.1 else some false) fun b=>(linkF w d id).2 = 0 → b = true:=by
   by_cases h : (linkF w d id).2 = 0
   ·rw [if_pos (by simpa using h),link_holds (v:=(linkF w d id).1) hW (by rw [← h])]
    exact .ret fun _=>rfl
   ·rw [if_neg (by simpa using h)]
    exact .ret fun h'=>absurd h' h
  refine Def.bind' a1 (fun v11 q11=>?_)
  rw [if_neg (by
   by_cases h : (linkF w d id).2 = 0
   ·simp [q11 h]
   ·simp [h])]
  rw [F54_eq w d id n hN hs,Option.bind_some]
  have hp : Ris (moveF w d id n).1 ∧ (objs (moveF w d id n).1).length ≤ 1000:=by
   unfold moveF
   split
   ·exact ⟨hW.ids,hN.few⟩
   split
   ·exact ⟨hW.ids,hN.few⟩
   split
   ·exact ⟨hW.ids,hN.few⟩
   split
   ·exact ⟨hW.ids,hN.few⟩
   ·exact ⟨putW_ris _ hW.ids,by
     have:=putW_len w (sett6_3_1 (findO (objs w) id).1 (IntKind.wrap .i64 (quo (findO (objs w) id).1 + n)))
     show (objs (putW w _)).length ≤ 1000
     omega⟩
  rw [F43_eq _ id hp.2,Option.bind_some]
  by_cases h : (moveF w d id n).2 = 0
  ·obtain ⟨m1,m2⟩:=move_holds (v:=(moveF w d id n).1) hW (by rw [← h])
   rw [F43_eq _ id hp.2] at m2
   have m3:=Option.some.inj m2
   rw [m3,m1,awake14]
   simp [h,Def]
  ·have hb : ((moveF w d id n).2 != 0) = true:=by simpa using h
   rw [awake14,hb]
   simp [Def]
 ·by_cases h : (attachF w d o).2 = 0
  ·obtain ⟨m1,m2⟩:=attach_holds (v:=(attachF w d o).1) hW hO (by rw [← h])
   rw [if_pos (by simpa using h),m1,Option.bind_some]
   have hq : F52 w (attachF w d o).1 d o.2.2.2.1 = some true:=m2
   simp [hq,idxO]
   exact hj () trivial
  ·rw [if_neg (by simpa using h)]
   exact hj () trivial
end Go.Fn
namespace Go.Fn
set_option maxRecDepth 100000
open Go Go.Ab Go.Tx
theorem law8 {st : TupD [t7,t6,(.int .u64),(.int .u64),(.int .i64)]} (h : EnvWf (toVs [t7,t6,(.int .u64),(.int .u64),(.int .i64)] st) → F8 st.1 st.2.1 st.2.2.1 st.2.2.2.1 st.2.2.2.2 = some true) : PureOK Go.Proofs.Tryz.prog 8 ((toVs [t7,t6,(.int .u64),(.int .u64),(.int .i64)] st).map Val.d) [.b true] :=
 law_of L54 pm 8 [t7,t6,(.int .u64),(.int .u64),(.int .i64)] .bool (fun st=>F8 st.1 st.2.1 st.2.2.1 st.2.2.2.1 st.2.2.2.2) [] [] [] spOK_nil (fun st=>by kernel_rfl) (by kernel_rfl) h
end Go.Fn
