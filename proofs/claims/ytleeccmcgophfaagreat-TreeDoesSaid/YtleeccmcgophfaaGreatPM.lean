import Derived.Test.YtleeccmcgophfaaGreatPL
import Derived.Test.YtleeccmcgophfaaGreatPJ
set_option linter.all false
namespace Go.Fn
set_option linter.unusedVariables false
open Go Go.Ab Go.Tx
abbrev objs (w : D7) : List D6:=w.2.2.2.1
def FewO (o : D6) : Prop:=o.2.2.1.length ≤ 20 ∧ o.2.2.2.2.2.1.length ≤ 70 ∧ o.2.2.2.2.2.2.1.length ≤ 300 ∧ o.2.2.2.2.2.2.2.1.length ≤ 20
theorem F30_def (w : D7) : Def (F30 w) fun b=>b = true → (objs w).length ≤ 16 ∧ ∀ o ∈ objs w,FewO o:=by
 unfold F30
 refine Def.ite (fun h=>.ret (fun h=>by cases h)) (fun h=>?_)
 have hn : (objs w).length ≤ 16:=by simp at h; exact_mod_cast h
 simp only [letJ_eq,letV_eq]
 refine Def.loop (fun i : Int=>0 ≤ i ∧ i ≤ (objs w).length ∧ ∀ o ∈ (objs w).take i.toNat,FewO o) (fun i : Int=>(objs w).length - i.toNat) ⟨by omega,by omega,by simp⟩ (fun i hi=>?_)
 refine Def.ite (fun h1=>?_) (fun h1=>?_)
 ·have h1 : i < (objs w).length:=by simpa [objs] using h1
  refine Def.bind (Def.idx hi.1 h1 (fun o ho hm=>?_))
  refine Def.ite (fun h2=>.done (.ret (fun h=>by cases h))) (fun h2=>.turn ?_)
  have hw : IntKind.wrap .i64 (i + 1) = i + 1:=wrap_i64 (by omega) (by omega)
  have e : (i + 1).toNat = i.toNat + 1:=by omega
  rw [hw]
  refine ⟨⟨by omega,by omega,?_⟩,by omega⟩
  rw [e,List.take_add_one,ho]
  intro x hx
  rcases List.mem_append.1 hx with hx | hx
  ·exact hi.2.2 x hx
  ·simp at hx; subst hx
   simp at h2
   exact ⟨by omega,by omega,by omega,by omega⟩
 ·have h1 : ¬ i < (objs w).length:=by simpa [objs] using h1
  have e : i.toNat = (objs w).length:=by omega
  refine .done (.ret fun _=>⟨hn,?_⟩)
  have:=hi.2.2
  rw [e,List.take_length] at this
  exact this
def findO (l : List D6) (id : Int) : D6 × Bool:=match l.find? (fun o=>o.1 == id) with | some o=>(o,true) | none=>(Ty.zero t6,false)
theorem F43_eq (w : D7) (id : Int) (hl : (objs w).length ≤ 1000) : F43 w id = some (findO (objs w) id):=by
 refine Def.eq ?_
 unfold F43
 simp only [letJ_eq,letV_eq]
 refine Def.loop (fun i : Int=>0 ≤ i ∧ i ≤ (objs w).length ∧ (objs w).find? (fun o=>o.1 == id) = ((objs w).drop i.toNat).find? (fun o=>o.1 == id)) (fun i : Int=>(objs w).length - i.toNat) ⟨by omega,by omega,by simp⟩ (fun i hi=>?_)
 refine Def.ite (fun h1=>?_) (fun h1=>?_)
 ·have h1 : i < (objs w).length:=by simpa [objs] using h1
  have e : (i + 1).toNat = i.toNat + 1:=by omega
  refine Def.bind (Def.idx hi.1 h1 (fun o ho hm=>?_))
  have hd : (objs w).drop i.toNat = o :: (objs w).drop (i.toNat + 1):=by
   obtain ⟨hk,e⟩:=List.getElem?_eq_some_iff.1 ho
   rw [← e]; exact List.drop_eq_getElem_cons hk
  have hf:=hi.2.2
  rw [hd,List.find?_cons] at hf
  refine Def.ite (fun h2=>Def.bind (Def.idx hi.1 h1 (fun o' ho' _=>?_))) (fun h2=>.turn ?_)
  ·rw [ho] at ho'; cases ho'
   refine .done (.ret ?_)
   unfold findO
   rw [hf,h2]
  ·have hw : IntKind.wrap .i64 (i + 1) = i + 1:=wrap_i64 (by omega) (by omega)
   rw [hw]
   have h2 : (o.1 == id) = false:=by simpa using h2
   rw [h2] at hf
   exact ⟨⟨by omega,by omega,by rw [e]; exact hf⟩,by omega⟩
 ·have h1 : ¬ i < (objs w).length:=by simpa [objs] using h1
  refine .done (.ret ?_)
  have hf:=hi.2.2
  rw [List.drop_eq_nil_of_le (by omega)] at hf
  unfold findO
  rw [hf]; rfl
theorem F103_eq (l : List Int) (n : Int) (hl : l.length ≤ 1000000) : F103 l n = some (l.contains n):=by
 refine Def.eq ?_
 unfold F103
 simp only [letJ_eq]
 refine Def.for1 (l:=l) (fun pre=>n ∉ pre) (by omega) (by simp) (fun pre v post e hi=>?_) (fun hi=>?_)
 ·refine Def.ite (fun h=>.done (.ret ?_)) (fun h=>.turn ⟨rfl,?_⟩)
  ·have h : v = n:=by simpa using h
   rw [e,h]; simp
  ·have h : ¬ v = n:=by simpa using h
   simp only [List.mem_append,List.mem_singleton,not_or]
   exact ⟨hi,fun e=>h e.symm⟩
 ·refine .done (.ret ?_)
  simpa using hi
abbrev lnk (o : D6) : List Int:=o.2.2.2.2.2.1
def holders (l : List D6) (id : Int) : List Int:=(l.filter fun o=>(lnk o).contains id).map (·.1)
theorem holders_app (a b : List D6) (id : Int) : holders (a ++ b) id = holders a id ++ holders b id:=by simp [holders]
theorem holders_len (l : List D6) (id : Int) : (holders l id).length ≤ l.length:=by
 rw [holders,List.length_map]; exact List.length_filter_le _ _
theorem F40_eq (w : D7) (id : Int) (hl : (objs w).length ≤ 1000) (hk : ∀ o ∈ objs w,(lnk o).length ≤ 1000) : F40 w id = some (holders (objs w) id):=by
 refine Def.eq ?_
 unfold F40
 simp only [letJ_eq]
 refine Def.for2 (l:=objs w) (fun pre a=>a = holders pre id) (by omega) rfl (fun pre v post a e hi=>?_) (fun a hi=>?_)
 ·subst hi
  have hv : v ∈ objs w:=by rw [e]; simp
  have hn : pre.length < (objs w).length:=by rw [e]; simp
  have hg : (objs w)[pre.length]? = some v:=by rw [e]; simp
  refine Def.bind (Def.of (F103_eq (lnk v) id (by have:=hk v hv; omega)) ?_)
  refine Def.ite (fun h=>?_) (fun h=>.turn ⟨rfl,?_⟩)
  ·refine Def.bind (Def.idx (l:=objs w) (by simp only; omega) (by simp only; exact_mod_cast hn) (fun v' hv' _=>?_))
   simp only [Int.toNat_natCast] at hv'
   rw [hg] at hv'; cases hv'
   refine Def.bind (.ret ?_)
   have hh:=holders_len pre id
   refine Def.bind (Def.app (by simp only [List.length_cons,List.length_nil]; omega) ?_)
   refine .turn ⟨rfl,?_⟩
   rw [holders_app]
   simp only [holders,List.filter_cons,h,List.filter_nil,if_true,List.map_cons,List.map_nil]
  ·rw [holders_app]
   have h : (lnk v).contains id = false:=by simpa using h
   simp only [holders,List.filter_cons,h,List.filter_nil,List.map_nil,List.append_nil]
   simp
 ·subst hi
  exact .done (.ret rfl)
abbrev dat (o : D6) : List Int:=o.2.2.2.2.2.2.1
def pages (o : D6) : Int:=1 + ((dat o).length + 15) / 16
theorem F44_eq (o : D6) (h : (dat o).length ≤ 1000000) : F44 o = some (pages o):=by
 unfold F44
 have h' : (o.2.2.2.2.2.2.1).length ≤ 1000000:=h
 rw [wrap_i64 (x:=((o.2.2.2.2.2.2.1).length : Int) + 16) (by omega) (by omega),wrap_i64 (x:=((o.2.2.2.2.2.2.1).length : Int) + 16 - 1) (by omega) (by omega)]
 have e : ((o.2.2.2.2.2.2.1).length : Int) + 16 - 1 = (o.2.2.2.2.2.2.1).length + 15:=by omega
 have e2 : (((o.2.2.2.2.2.2.1).length : Int) + 15).tdiv 16 = ((o.2.2.2.2.2.2.1).length + 15) / 16:=Int.tdiv_eq_ediv_of_nonneg (by omega)
 rw [e,quoO,if_pos (by decide),e2,wrap_i64 (by omega) (by omega),Option.bind_some,wrap_i64 (by omega) (by omega)]
 rfl
abbrev quo (o : D6) : Int:=o.2.2.2.1
def usesF (l : List D6) (n : Int) (ids : List Int) : Int:=ids.foldl (fun n id=>IntKind.wrap .i64 (n + quo (findO l id).1)) n
theorem F36_eq (w : D7) (o : D6) (hl : (objs w).length ≤ 1000) (hd : (dat o).length ≤ 1000000) (hk : (lnk o).length ≤ 1000) : F36 w o = some (usesF (objs w) (pages o) (lnk o)):=by
 refine Def.eq ?_
 unfold F36
 rw [F44_eq o hd,Option.bind_some]
 simp only [letJ_eq]
 refine Def.for2 (l:=lnk o) (fun pre a=>a = usesF (objs w) (pages o) pre) (by omega) rfl (fun pre v post a e hi=>?_) (fun a hi=>?_)
 ·subst hi
  refine Def.bind (Def.of (F43_eq w v hl) ?_)
  refine .turn ⟨rfl,?_⟩
  simp only [usesF,List.foldl_append,List.foldl_cons,List.foldl_nil]
 ·subst hi
  exact .done (.ret rfl)
def climb (l : List D6) : Nat → Int → List Int → List Int
 | 0,_,_=>[]
 | k + 1,id,acc=>match holders l id with
  | []=>acc
  | d :: _=>climb l k d (acc ++ [d])
theorem F42_eq (w : D7) (id : Int) (hl : (objs w).length ≤ 1000) (hk : ∀ o ∈ objs w,(lnk o).length ≤ 1000) : F42 w id = some (climb (objs w) ((objs w).length + 1) id []):=by
 refine Def.eq ?_
 unfold F42
 simp only [letJ_eq]
 refine Def.loop (fun s : Int × List Int=>s.2.length ≤ (objs w).length + 1 ∧ climb (objs w) ((objs w).length + 1 - s.2.length) s.1 s.2 = climb (objs w) ((objs w).length + 1) id []) (fun s=>(objs w).length + 1 - s.2.length) ⟨by simp,by simp⟩ (fun s hi=>?_)
 obtain ⟨h1,h2⟩:=hi
 refine Def.ite (fun hc=>?_) (fun hc=>?_)
 ·have hc : s.2.length ≤ (objs w).length:=by simp only [decide_eq_true_eq] at hc; exact_mod_cast hc
  obtain ⟨k,hk'⟩ : ∃ k,(objs w).length + 1 - s.2.length = k + 1:=⟨(objs w).length - s.2.length,by omega⟩
  rw [hk',climb] at h2
  refine Def.bind (Def.of (F40_eq w s.1 hl hk) ?_)
  refine Def.ite (fun h=>.done (.ret ?_)) (fun h=>?_)
  ·have h : holders (objs w) s.1 = []:=by simpa using h
   rw [h] at h2; exact h2
  ·cases hh : holders (objs w) s.1 with
   | nil=>rw [hh] at h; simp at h
   | cons d r =>
    rw [hh] at h2
    refine Def.bind (Def.idx (by omega) (by simp only [List.length_cons]; omega) (fun v hv _=>?_))
    simp at hv; subst hv
    refine Def.bind (.ret (Def.bind (Def.app (by simp only [List.length_cons,List.length_nil]; omega) (.turn ?_))))
    refine ⟨⟨by simp; omega,?_⟩,by simp only [List.length_append,List.length_cons,List.length_nil]; omega⟩
    rw [← h2]
    simp only [List.length_append,List.length_cons,List.length_nil]
    rw [show (objs w).length + 1 - (s.2.length + (0 + 1)) = k from by omega]
 ·have hc : ¬ s.2.length ≤ (objs w).length:=by simp only [decide_eq_true_eq] at hc; exact_mod_cast hc
  refine .done (.ret ?_)
  rw [← h2,show (objs w).length + 1 - s.2.length = 0 from by omega]
  rfl
def above (l : List D6) (id : Int) : List Int:=climb l (l.length + 1) id []
def upB (l : List D6) (root id : Int) : Bool:=match (above l id).getLast? with | none=>id == root | some r=>r == root
theorem climb_len (l : List D6) : ∀ (k : Nat) (id : Int) (acc : List Int),(climb l k id acc).length ≤ acc.length + k
 | 0,_,_=>by simp [climb]
 | k + 1,id,acc=>by
  rw [climb]
  split
  ·omega
  ·have:=climb_len l k (by assumption) (acc ++ [by assumption])
   rename_i d _ _
   have:=climb_len l k d (acc ++ [d])
   simp only [List.length_append,List.length_cons,List.length_nil] at this
   omega
theorem F154_eq (w : D7) (id : Int) (hl : (objs w).length ≤ 1000) (hk : ∀ o ∈ objs w,(lnk o).length ≤ 1000) : F154 w id = some (upB (objs w) w.2.2.1 id):=by
 refine Def.eq ?_
 unfold F154
 refine Def.bind (Def.of (F42_eq w id hl hk) ?_)
 have hn:=climb_len (objs w) ((objs w).length + 1) id []
 unfold upB above
 generalize climb (objs w) ((objs w).length + 1) id [] = a at hn
 simp only [List.length_nil] at hn
 cases ha : a.getLast? with
 | none =>
  have : a = []:=List.getLast?_eq_none_iff.1 ha
  subst this
  refine Def.bind (Def.ite (fun h=>by simp at h) (fun _=>.ret (.ret ?_)))
  cases hb : (id == w.2.2.1) <;> simp [hb]
 | some r =>
  have hne : a ≠ []:=fun e=>by rw [e] at ha; cases ha
  have hpos : 0 < a.length:=List.length_pos_iff.2 hne
  have hw : IntKind.wrap .i64 ((a.length : Int) - 1) = (a.length : Int) - 1:=wrap_i64 (by omega) (by omega)
  have hl0 : ((a.length : Int) == 0) = false:=by simp; omega
  refine Def.bind (Def.ite (fun h=>?_) (fun h=>?_))
  ·rw [hw]
   refine Def.idx (by omega) (by omega) (fun v hv _=>.ret ?_)
   have e : ((a.length : Int) - 1).toNat = a.length - 1:=by omega
   rw [e,← List.getLast?_eq_getElem?,ha] at hv
   cases hv
   simp [hl0,hpos]
  ·exfalso
   apply h
   simp [hl0,hpos]
def placedB (l : List D6) (root : Int) (o : D6) : Bool :=
 let n:=(holders l o.1).length
 if o.1 = root then n == 0 && (o.2.1 == 2 && decide (quo o ≤ 1024))
 else if n < 1 ∨ 1 < n ∧ (o.2.2.2.2.1 = false ∨ o.2.1 = 2 ∨ o.2.1 = 4) then false
 else if o.2.1 = 2 then upB l root o.1 else true
theorem F91_eq (w : D7) (o : D6) (hl : (objs w).length ≤ 1000) (hk : ∀ o ∈ objs w,(lnk o).length ≤ 1000) : F91 w o = some (placedB (objs w) w.2.2.1 o):=by
 refine Def.eq ?_
 unfold F91
 refine Def.bind (Def.of (F40_eq w o.1 hl hk) ?_)
 unfold placedB
 simp only
 generalize (holders (objs w) o.1).length = n
 refine Def.ite (fun h=>.ret ?_) (fun h=>?_)
 ·have h : o.1 = w.2.2.1:=by simpa using h
  rw [if_pos h]
  cases h1 : ((n : Int) == 0) <;> cases h2 : (o.2.1 == 2) <;> simp_all
 ·have h : ¬ o.1 = w.2.2.1:=by simpa using h
  rw [if_neg h]
  refine Def.letV (Def.ite (fun h1=>.ret ?_) (fun h1=>?_))
  ·rw [if_pos]
   by_cases hn : n < 1
   ·exact .inl hn
   ·by_cases hn1 : 1 < n
    ·refine .inr ⟨hn1,?_⟩
     cases hf : o.2.2.2.2.1 with
     | false=>exact .inl rfl
     | true =>
      have e1 : ¬ ((n : Int) < 1):=by omega
      have e2 : (n : Int) > 1:=by omega
      simp [hf,e1,e2] at h1
      exact .inr h1
    ·have e1 : ¬ ((n : Int) < 1):=by omega
     have e2 : ¬ ((n : Int) > 1):=by omega
     simp [e1,e2] at h1
  ·have hcn : ¬ (n < 1 ∨ 1 < n ∧ (o.2.2.2.2.1 = false ∨ o.2.1 = 2 ∨ o.2.1 = 4)):=by
    rintro (hn | ⟨hn,hx⟩)
    ·have e1 : (n : Int) < 1:=by omega
     simp [e1] at h1
    ·have e1 : ¬ ((n : Int) < 1):=by omega
     have e2 : (n : Int) > 1:=by omega
     rcases hx with hx | hx | hx <;> simp [e1,e2,hx] at h1
   simp only [if_neg hcn]
   by_cases hk2 : o.2.1 = 2
   ·simp only [if_pos hk2]
    refine Def.bind (Def.ite (fun _=>Def.of (F154_eq w o.1 hl hk) (.ret ?_)) (fun h2=>?_))
    ·simp [hk2]
    ·simp [hk2] at h2
   ·simp only [if_neg hk2]
    refine Def.bind (Def.ite (fun h2=>?_) (fun _=>.ret (.ret ?_)))
    ·simp [hk2] at h2
    ·simp [hk2]
end Go.Fn
namespace Go.Fn
set_option linter.unusedVariables false
open Go Go.Ab Go.Tx
structure Whole (l : List D6) (root : Int) : Prop where
 few : l.length ≤ 16
 ids : l.Pairwise (fun a b=>a.1 < b.1)
 quo : ∀ o ∈ l,1 ≤ quo o ∧ quo o ≤ 4096
 dat : ∀ o ∈ l,(dat o).length ≤ 300
 lns : ∀ o ∈ l,(lnk o).length ≤ 70
 own : ∀ o ∈ l,o.2.1 ≠ 2 → lnk o = [] ∧ pages o ≤ Fn.quo o
 lnk : ∀ o ∈ l,(lnk o).Pairwise (· < ·)
 has : ∀ o ∈ l,∀ x ∈ Fn.lnk o,∃ y ∈ l,y.1 = x
 uses : ∀ o ∈ l,o.2.1 = 2 → usesF l (pages o) (Fn.lnk o) ≤ Fn.quo o
 top : ∃ r ∈ l,r.1 = root
 placed : ∀ o ∈ l,placedB l root o = true
theorem len_sub : ∀ (A L : List Int),A.Nodup → (∀ x ∈ A,x ∈ L) → A.length ≤ L.length
 | [],L,_,_=>by simp
 | a :: A,L,h,hs=>by
  obtain ⟨s,t,e⟩:=List.append_of_mem (hs a (by simp))
  obtain ⟨hn,h2⟩:=List.nodup_cons.1 h
  have ih:=len_sub A (s ++ t) h2 (fun x hx=>by
   have:=hs x (by simp [hx])
   rw [e] at this
   have hne : x ≠ a:=fun e=>hn (e ▸ hx)
   simp only [List.mem_append,List.mem_cons] at this ⊢
   rcases this with h | h | h
   ·exact .inl h
   ·exact absurd h hne
   ·exact .inr h)
  rw [e]
  simp only [List.length_append,List.length_cons] at ih ⊢
  omega
theorem findO_mem : ∀ {l : List D6},l.Pairwise (fun a b=>a.1 < b.1) → ∀ o ∈ l,findO l o.1 = (o,true)
 | [],_,o,h=>by cases h
 | a :: l,hp,o,h=>by
  obtain ⟨h1,h2⟩:=List.pairwise_cons.1 hp
  rcases List.mem_cons.1 h with rfl | h
  ·simp [findO]
  ·have:=h1 o h
   have hne : (a.1 == o.1) = false:=by simp; omega
   have ih:=findO_mem h2 o h
   unfold findO at ih ⊢
   rw [List.find?_cons,hne]
   exact ih
theorem findO_none {l : List D6} {id : Int} (h : ∀ o ∈ l,o.1 ≠ id) : findO l id = (Ty.zero t6,false):=by
 have : l.find? (fun o=>o.1 == id) = none:=List.find?_eq_none.2 fun o ho=>by simpa using h o ho
 unfold findO
 rw [this]
theorem mem_holders {l : List D6} {id d : Int} : d ∈ holders l id ↔ ∃ o ∈ l,id ∈ lnk o ∧ o.1 = d:=by
 simp only [holders,List.mem_map,List.mem_filter]
 constructor
 ·rintro ⟨o,⟨h1,h2⟩,h3⟩; exact ⟨o,h1,by simpa using h2,h3⟩
 ·rintro ⟨o,h1,h2,h3⟩; exact ⟨o,⟨h1,by simpa using h2⟩,h3⟩
theorem held {l : List D6} {root : Int} (h : Whole l root) {o : D6} (ho : o ∈ l) (hr : o.1 ≠ root) : holders l o.1 ≠ []:=by
 have:=h.placed o ho
 unfold placedB at this
 simp only [if_neg hr] at this
 intro e
 rw [e] at this
 simp at this
inductive Chain (l : List D6) : Int → List Int → Prop
 | nil {id : Int} : holders l id = [] → Chain l id []
 | cons {id d : Int} {r c : List Int} : holders l id = d :: r → Chain l d c → Chain l id (d :: c)
theorem Chain.det {l : List D6} {id : Int} {c c' : List Int} (h : Chain l id c) (h' : Chain l id c') : c = c':=by
 induction h generalizing c' with
 | nil e =>
  cases h' with
  | nil=>rfl
  | cons e'=>rw [e] at e'; cases e'
 | cons e h ih =>
  cases h' with
  | nil e'=>rw [e] at e'; cases e'
  | cons e' h'=>rw [e] at e'; cases e'; rw [ih h']
theorem Chain.under {l : List D6} {id : Int} {c : List Int} (h : Chain l id c) : ∀ x ∈ c,∃ c',Chain l x c' ∧ c'.length < c.length:=by
 induction h with
 | nil=>intro x hx; cases hx
 | cons e h ih =>
  intro x hx
  rcases List.mem_cons.1 hx with rfl | hx
  ·exact ⟨_,h,by simp⟩
  ·obtain ⟨c',h1,h2⟩:=ih x hx
   exact ⟨c',h1,by simp; omega⟩
theorem Chain.nodup {l : List D6} {id : Int} {c : List Int} (h : Chain l id c) : (id :: c).Nodup:=by
 induction h with
 | nil=>simp
 | cons e h ih =>
  refine List.nodup_cons.2 ⟨fun hm=>?_,ih⟩
  have h':=Chain.cons e h
  obtain ⟨c',h1,h2⟩:=h'.under _ hm
  rw [h1.det h'] at h2
  exact Nat.lt_irrefl _ h2
theorem Chain.mem {l : List D6} {id : Int} {c : List Int} (h : Chain l id c) : ∀ x ∈ c,∃ o ∈ l,o.1 = x:=by
 induction h with
 | nil=>intro x hx; cases hx
 | cons e h ih =>
  intro x hx
  rcases List.mem_cons.1 hx with rfl | hx
  ·obtain ⟨o,ho,_,e'⟩:=mem_holders.1 (by rw [e]; exact List.mem_cons_self : x ∈ holders l _)
   exact ⟨o,ho,e'⟩
  ·exact ih x hx
theorem Chain.len {l : List D6} {o : D6} (ho : o ∈ l) {c : List Int} (h : Chain l o.1 c) : c.length + 1 ≤ l.length:=by
 have:=len_sub (o.1 :: c) (l.map (·.1)) h.nodup (by
  intro x hx
  rcases List.mem_cons.1 hx with rfl | hx
  ·exact List.mem_map.2 ⟨o,ho,rfl⟩
  ·obtain ⟨y,hy,e⟩:=h.mem x hx
   exact List.mem_map.2 ⟨y,hy,e⟩)
 simpa using this
end Go.Fn
namespace Go.Fn
set_option linter.unusedVariables false
open Go Go.Ab Go.Tx
def lowB (ks : List Int) (t : Int) : Nat:=(ks.filter fun k=>decide (k < t)).length
theorem lowB_le (ks : List Int) (t : Int) : lowB ks t ≤ ks.length:=List.length_filter_le _ _
theorem lowB_lt : ∀ {ks : List Int},ks.Pairwise (· < ·) → ∀ (t : Int) (m : Nat) (v : Int),ks[m]? = some v → (v < t ↔ m < lowB ks t)
 | [],_,t,m,v,h=>by simp at h
 | k :: ks,hp,t,m,v,h=>by
  obtain ⟨h1,h2⟩:=List.pairwise_cons.1 hp
  by_cases hk : k < t
  ·have e : lowB (k :: ks) t = lowB ks t + 1:=by simp [lowB,List.filter_cons,hk]
   rw [e]
   cases m with
   | zero=>simp at h; subst h; simp [hk]
   | succ m =>
    have:=lowB_lt h2 t m v (by simpa using h)
    rw [this]; omega
  ·have e0 : lowB (k :: ks) t = 0:=by
    have : ∀ x ∈ k :: ks,¬ x < t:=by
     intro x hx
     rcases List.mem_cons.1 hx with rfl | hx
     ·exact hk
     ·have:=h1 x hx; omega
    unfold lowB
    rw [List.filter_eq_nil_iff.2 (by intro x hx; simpa using this x hx)]
    rfl
   rw [e0]
   have hv : v ∈ k :: ks:=List.mem_of_getElem? h
   constructor
   ·intro hv'
    rcases List.mem_cons.1 hv with rfl | hx
    ·exact absurd hv' hk
    ·have:=h1 v hx; omega
   ·intro h; omega
theorem lowB_mem {ks : List Int} (hp : ks.Pairwise (· < ·)) {t v : Int} (h : ks[lowB ks t]? = some v) : t ∈ ks ↔ v = t:=by
 constructor
 ·intro hm
  obtain ⟨m,hm⟩:=List.getElem?_of_mem hm
  have h1:=lowB_lt hp t m t hm
  have h2:=lowB_lt hp t _ v h
  have h3 : ¬ v < t:=fun hc=>by have:=h2.1 hc; omega
  have h4 : ¬ m < lowB ks t:=fun hc=>by have:=h1.2 hc; omega
  by_cases he : m = lowB ks t
  ·rw [he,h] at hm; exact Option.some.inj hm
  ·exfalso
   have hlt : lowB ks t < m:=by omega
   obtain ⟨q1,q2⟩:=List.getElem?_eq_some_iff.1 h
   obtain ⟨r1,r2⟩:=List.getElem?_eq_some_iff.1 hm
   have:=List.pairwise_iff_getElem.1 hp _ _ q1 r1 hlt
   omega
 ·rintro rfl; exact List.mem_of_getElem? h
theorem lowB_end {ks : List Int} (hp : ks.Pairwise (· < ·)) {t : Int} (h : ks.length ≤ lowB ks t) : t ∉ ks:=by
 intro hm
 obtain ⟨m,hm⟩:=List.getElem?_of_mem hm
 have h1:=lowB_lt hp t m t hm
 obtain ⟨r1,r2⟩:=List.getElem?_eq_some_iff.1 hm
 have : t < t:=h1.2 (by omega)
 omega
end Go.Fn
namespace Go.Fn
set_option linter.unusedVariables false
open Go Go.Ab Go.Tx
abbrev thr (o : D6) : D4:=o.2.2.2.2.2.2.2.2.1
abbrev gat (o : D6) : D5:=o.2.2.2.2.2.2.2.2.2.1
abbrev big : Nat:=9223372036854775807
structure OkO (o : D6) : Prop where
 lab : o.2.2.1.length ≤ big
 lnk : (lnk o).length ≤ big
 dat : (dat o).length ≤ big
 mps : o.2.2.2.2.2.2.2.1.length ≤ big
 clr : (thr o).2.2.1.length ≤ big
 alr : (thr o).2.2.2.2.2.2.2.2.1.length ≤ big
 lbs : ∀ i,((thr o).2.2.2.2.2.2.2.2.2.2.1 i).length ≤ big
 gra : (gat o).1.length ≤ big
 gcl : (gat o).2.1.length ≤ big
 inn : o.2.2.2.2.2.2.2.2.2.2.1.length ≤ big
 out : o.2.2.2.2.2.2.2.2.2.2.2.1.length ≤ big
structure FitL (l : List D0) : Prop where
 rise : l.Pairwise (fun a b=>a.1 < b.1)
 lev : ∀ p ∈ l,0 ≤ p.2.1 ∧ p.2.1 ≤ 5 ∧ p.2.1 ≠ 2
theorem F155_def (l : List D0) (hl : l.length ≤ big) : Def (F155 l) fun b=>b = true → FitL l:=by
 unfold F155
 simp only [letJ_eq,F218,Option.bind_some]
 refine Def.for1 (l:=l) (fun pre=>FitL pre) hl ⟨List.Pairwise.nil,by simp⟩ (fun pre v post e hi=>?_) (fun hi=>.done (.ret fun _=>hi))
 refine Def.bindI _ (fun _=>Def.at e) (fun v4 q4 _=>?_)
 refine Def.bindI _ (fun hc=>Def.prev e hl (by simp at hc; omega)) (fun v5 q5 _=>?_)
 refine Def.bindI _ (fun _=>Def.at e) (fun v6 q6 _=>?_)
 refine Def.ite (fun _=>.done (.ret (fun h=>by cases h))) (fun hc=>.turn ⟨rfl,?_⟩)
 simp at hc q4 q5 q6
 obtain ⟨⟨⟨h0,h5⟩,h2⟩,hp⟩:=hc
 have e4:=q4 h0 h5
 subst e4
 refine ⟨?_,?_⟩
 ·rw [List.pairwise_append]
  refine ⟨hi.rise,by simp,fun x hx y hy=>?_⟩
  simp only [List.mem_singleton] at hy; subst hy
  have hpos : 0 < pre.length:=List.length_pos_of_mem hx
  have hu:=q5 h0 h5 h2 hpos
  have hv:=q6 h0 h5 h2 hpos
  have hlt:=hp hpos
  rw [hv] at hlt
  have hr:=hi.rise
  obtain ⟨ys,rfl⟩:=List.getLast?_eq_some_iff.1 hu
  rw [List.pairwise_append] at hr
  rcases List.mem_append.1 hx with hx | hx
  ·have:=hr.2.2 x hx v5 (by simp); omega
  ·simp at hx; subst hx; omega
 ·intro p hp'
  rcases List.mem_append.1 hp' with hp' | hp'
  ·exact hi.lev p hp'
  ·simp at hp'; subst hp'; exact ⟨h0,h5,h2⟩
theorem F94_def (l : List D0) (hl : l.length ≤ big) : Def (F94 l) fun b=>b = true → l.length ≤ 16 ∧ FitL l:=by
 unfold F94
 simp only [letJ_eq]
 refine Def.for1 (l:=l) (fun _=>True) hl trivial (fun pre v post e _=>?_) (fun _=>?_)
 ·exact Def.ite (fun _=>.done (.ret (fun h=>by cases h))) (fun _=>.turn ⟨rfl,trivial⟩)
 ·refine Def.done (Def.bindI _ (fun _=>F155_def l hl) (fun b q _=>.ret (fun h=>?_)))
  by_cases h' : ((l.length : Nat) : Int) ≤ 16
  ·rw [if_pos (by simpa using h')] at h
   exact ⟨by omega,q (by simpa using h') h⟩
  ·rw [if_neg (by simpa using h')] at h; cases h
theorem same_def {α : Type} {a b : List α} {c : Int → α → α → Bool} (hl : b.length ≤ big) : Def (if (((List.length a : Nat) : Int) != ((List.length b : Nat) : Int)) = true then some false else
  whileO (σ:=Int) (ρ:=Bool) (fun s=>if (decide (s < ((List.length a : Nat) : Int))) = true then Option.bind (idxO a s) fun v=>Option.bind (idxO b s) fun u=>if c s v u = true then done (some false) else turn (IntKind.wrap .i64 (s + (1 : Int))) else done (some true)) (0 : Int))
  fun r=>r = true → (∀ s v u,c s v u = false → v = u) → a = b:=by
 refine Def.ite (fun _=>.ret (fun h=>by cases h)) (fun h=>?_)
 have hn : a.length = b.length:=by simp at h; exact_mod_cast h
 refine Def.for1 (l:=a) (fun pre=>(∀ s v u,c s v u = false → v = u) → b.take pre.length = pre) (by rw [hn]; exact hl) (by simp) (fun pre v post e hi=>?_) (fun hi=>?_)
 ·have hlt : pre.length < b.length:=by rw [← hn,e]; simp
  refine Def.bind (Def.idx (by omega) (by exact_mod_cast hlt) (fun u hu _=>?_))
  refine Def.ite (fun _=>.done (.ret (fun h=>by cases h))) (fun hc=>.turn ⟨rfl,fun hh=>?_⟩)
  have hvu:=hh _ _ _ (by simpa using hc)
  simp only [Int.toNat_natCast] at hu
  rw [List.length_append,List.length_singleton,List.take_add_one,hi hh,hu,hvu]; rfl
 ·refine .done (.ret (fun _ hh=>?_))
  have:=hi hh
  rw [hn,List.take_length] at this
  exact this.symm
theorem F128_def (a b : List D0) (hl : b.length ≤ big) : Def (F128 a b) fun _=>True:=by
 unfold F128
 simp only [letJ_eq]
 exact (same_def (c:=fun _ v u=>!(eqK (.prod (.int .u64) (.prod (.int .i64) .unit)) v u)) hl).mono fun _ _=>trivial
theorem F139_def (a b : List Int) (hl : b.length ≤ big) : Def (F139 a b) fun r=>r = true → a = b:=by
 unfold F139
 simp only [letJ_eq]
 refine (same_def (c:=fun _ v u=>v != u) hl).mono fun r h hr=>h hr fun _ v u h=>?_
 simpa using h
theorem F140_def (a b : List D1) (hl : b.length ≤ big) : Def (F140 a b) fun _=>True:=by
 unfold F140
 simp only [letJ_eq]
 exact (same_def (c:=fun _ v u=>!(eqK (.prod (.int .i64) (.prod (.int .i64) (.prod (.int .u64) (.prod (.int .u64) (.prod (.int .i64) (.prod .bool .unit)))))) v u)) hl).mono fun _ _=>trivial
theorem guard4 {i : Int} {Q : Unit → Prop} (h0 : 0 ≤ i) (h1 : i < (4 : Nat)) (h : Q ()) : Def (guardO (if (decide ((0 : Int) ≤ i)) = true then (decide (i < (4 : Int))) else false)) Q :=
 have h4 : i < 4:=by omega
 Def.guard (by simp [h0,h4]) h
theorem F141_def (a b : D4) (h1 : b.2.2.1.length ≤ big) (h2 : b.2.2.2.2.2.2.2.2.1.length ≤ big) (h3 : ∀ i,(b.2.2.2.2.2.2.2.2.2.2.1 i).length ≤ big) : Def (F141 a b) fun _=>True:=by
 unfold F141
 simp only [letJ_eq,letV_eq]
 refine Def.times (n:=4) (by omega) (fun i h0 h4=>?_) ?_
 ·refine Def.bind (guard4 h0 h4 (Def.bind (Def.aidx h0 h4 fun k=>Def.bind (guard4 h0 h4 (Def.bind (Def.aidx h0 h4 fun k'=>?_))))))
  refine Def.bind' (R:=fun _=>True) (F128_def _ _ (h3 _)) (fun _ _=>?_)
  exact Def.ite (fun _=>.done (.ret trivial)) (fun _=>.turn rfl)
 ·refine Def.done (Def.bindI (fun _=>True) (fun _=>F128_def _ _ h1) (fun _ _ _=>?_))
  exact Def.bindI (fun _=>True) (fun _=>(F139_def _ _ h2).mono fun _ _=>trivial) (fun _ _ _=>.ret trivial)
theorem F142_def (a b : D5) (h1 : b.1.length ≤ big) (h2 : b.2.1.length ≤ big) : Def (F142 a b) fun _=>True:=by
 unfold F142
 simp only [letV_eq]
 refine Def.bind' (R:=fun _=>True) (F128_def _ _ h1) (fun _ _=>?_)
 exact Def.bindI (fun _=>True) (fun _=>F128_def _ _ h2) (fun _ _ _=>.ret trivial)
theorem F83_def (a b : D6) (h : OkO b) : Def (F83 a b) fun r=>r = true → lnk a = lnk b ∧ dat a = dat b:=by
 unfold F83
 simp only [letV_eq]
 refine Def.bindI (fun _=>True) (fun _=>F128_def _ _ h.lab) (fun _ _ _=>?_)
 refine Def.ite (fun _=>.ret (fun h=>by cases h)) (fun _=>?_)
 refine Def.bind' (F139_def _ _ h.lnk) (fun v4 q4=>?_)
 refine Def.bindI _ (fun _=>F139_def _ _ h.dat) (fun v5 q5 _=>?_)
 refine Def.bindI (fun _=>True) (fun _=>F140_def _ _ h.mps) (fun v6 _ _=>?_)
 refine Def.bindI (fun _=>True) (fun _=>F141_def _ _ h.clr h.alr h.lbs) (fun v7 _ _=>?_)
 refine Def.bindI (fun _=>True) (fun _=>F142_def _ _ h.gra h.gcl) (fun v8 _ _=>?_)
 refine Def.bindI (fun _=>True) (fun _=>(F139_def _ _ h.inn).mono fun _ _=>trivial) (fun v9 _ _=>?_)
 refine Def.bindI (fun _=>True) (fun _=>(F139_def _ _ h.out).mono fun _ _=>trivial) (fun v10 _ _=>.ret (fun hr=>?_))
 cases v4 with
 | false=>simp at hr
 | true =>
  cases v5 with
  | false=>simp at hr
  | true=>exact ⟨q4 rfl,q5 (by simp) rfl⟩
theorem F95_def (o : D6) (h : OkO o) : Def (F95 o) fun r=>r = true → (o.2.1 ≠ 2 → lnk o = []) ∧ (o.2.1 ≠ 1 → dat o = []):=by
 have key : ∀ x : D6,((o.2.1 ≠ 2 → lnk x = []) ∧ (o.2.1 ≠ 1 → dat x = [])) → Def (Option.bind (F83 x o) fun v2=>some v2) fun r=>r = true → (o.2.1 ≠ 2 → lnk o = []) ∧ (o.2.1 ≠ 1 → dat o = []):=by
  intro x hx
  refine Def.bind' (F83_def x o h) (fun v q=>.ret (fun hv=>?_))
  obtain ⟨e1,e2⟩:=q hv
  rw [← e1,← e2]; exact hx
 unfold F95
 simp only [letJ_eq]
 refine Def.ite (fun hk=>?_) (fun hk=>Def.ite (fun hk2=>?_) (fun hk2=>Def.ite (fun hk3=>?_) (fun hk3=>Def.ite (fun hk4=>?_) (fun hk4=>Def.ite (fun hk5=>?_) (fun hk5=>Def.ite (fun hk6=>?_) (fun hk6=>?_))))))
 all_goals refine key _ ⟨fun hn=>?_,fun hn=>?_⟩
 all_goals first | rfl | (simp_all)
theorem F96_def (l : List D0) (hl : l.length ≤ 1000000) : Def (F96 l) fun _=>True:=by
 unfold F96
 simp only [letJ_eq]
 refine Def.for2 (l:=l) (fun pre a=>a.length ≤ pre.length) (by omega) (by simp) (fun pre v post a e hi=>?_) (fun a hi=>.done (.ret trivial))
 have hlt : pre.length < l.length:=by rw [e]; simp
 refine Def.ite (fun h=>?_) (fun h=>.turn ⟨rfl,by simp; omega⟩)
 refine Def.bind' (R:=fun _=>True) ((Def.at e).mono fun _ _=>trivial) (fun u _=>Def.bind (.ret (Def.bind (Def.app (by simp only [List.length_cons,List.length_nil]; omega) (.turn ⟨rfl,?_⟩)))))
 simp only [List.length_append,List.length_cons,List.length_nil]; omega
theorem F97_def (l : List Int) (hl : l.length ≤ big) : Def (F97 l) fun b=>b = true → l.Pairwise (· < ·):=by
 unfold F97
 simp only [letJ_eq,F93,Option.bind_some]
 refine Def.for1 (l:=l) (fun pre=>pre.Pairwise (· < ·)) hl List.Pairwise.nil (fun pre v post e hi=>?_) (fun hi=>.done (.ret fun _=>hi))
 refine Def.bindI _ (fun hc=>Def.prev e hl (by simp at hc; omega)) (fun u hu _=>?_)
 refine Def.bindI _ (fun hc=>Def.at e) (fun v' hv _=>?_)
 refine Def.ite (fun _=>.done (.ret (fun h=>by cases h))) (fun hc=>.turn ⟨rfl,?_⟩)
 rw [List.pairwise_append]
 refine ⟨hi,by simp,fun x hx y hy=>?_⟩
 simp only [List.mem_singleton] at hy; subst hy
 have h0 : 0 < pre.length:=List.length_pos_of_mem hx
 simp [h0] at hc hu hv
 obtain ⟨hc1,hc2⟩:=hc
 have hu:=hu hc1.1 hc1.2
 have hv:=hv hc1.1 hc1.2
 obtain ⟨ys,rfl⟩:=List.getLast?_eq_some_iff.1 hu
 rw [List.pairwise_append] at hi
 rcases List.mem_append.1 hx with hx | hx
 ·have:=hi.2.2 x hx u (by simp); omega
 ·simp at hx; omega
theorem F98_def (l : List D1) : Def (F98 l) fun _=>True:=by
 unfold F98
 refine Def.ite (fun _=>.ret trivial) (fun hn=>?_)
 simp only [letJ_eq,letV_eq,F156,Option.bind_some]
 have hl : l.length ≤ big:=by simp at hn; unfold big; omega
 refine Def.for1 (l:=l) (fun _=>True) hl trivial (fun pre v post e _=>?_) (fun _=>.done (.ret trivial))
 refine Def.bindI (fun _=>True) (fun hc=>(Def.prev e hl (by simp at hc; omega)).mono fun _ _=>trivial) (fun _ _ _=>?_)
 refine Def.bindI (fun _=>True) (fun hc=>(Def.prev e hl (by simp at hc; omega)).mono fun _ _=>trivial) (fun _ _ _=>?_)
 refine Def.bindI (fun _=>True) (fun _=>(Def.at e).mono fun _ _=>trivial) (fun _ _ _=>?_)
 exact Def.ite (fun _=>.done (.ret trivial)) (fun _=>.turn ⟨rfl,trivial⟩)
theorem F159_def (l : List D0) (c : Int) (hl : l.length ≤ big) : Def (F159 l c) fun _=>True:=by
 unfold F159
 simp only [letJ_eq]
 refine Def.for1 (l:=l) (fun _=>True) hl trivial (fun pre v post e _=>?_) (fun _=>.done (.ret trivial))
 refine Def.ite (fun _=>Def.bind' (R:=fun _=>True) ((Def.at e).mono fun _ _=>trivial) (fun _ _=>.done (.ret trivial))) (fun _=>.turn ⟨rfl,trivial⟩)
theorem F219_def (a : Int) : Def (F219 a) fun _=>True:=by
 unfold F219
 exact Def.ite (fun _=>.ret trivial) (fun _=>.ret trivial)
theorem F158_def (a b : Int) : Def (F158 a b) fun _=>True:=by
 unfold F158
 exact Def.bind' (F219_def _) (fun _ _=>Def.bind' (F219_def _) (fun _ _=>.ret trivial))
theorem F100_def (a b : List D0) (ha : a.length ≤ big) (hb : b.length ≤ big) : Def (F100 a b) fun _=>True:=by
 unfold F100
 simp only [letJ_eq]
 refine Def.for1 (l:=a) (fun _=>True) ha trivial (fun pre v post e _=>?_) (fun _=>.done ?_)
 ·refine Def.bind' (R:=fun _=>True) ((Def.at e).mono fun _ _=>trivial) (fun _ _=>Def.bind' (F159_def _ _ hb) (fun _ _=>Def.bind' (F158_def _ _) (fun _ _=>?_)))
  exact Def.ite (fun _=>.done (.ret trivial)) (fun _=>.turn ⟨rfl,trivial⟩)
 ·refine Def.for1 (l:=b) (fun _=>True) hb trivial (fun pre v post e _=>?_) (fun _=>.done (.ret trivial))
  refine Def.bind' (F159_def _ _ ha) (fun _ _=>Def.bind' (R:=fun _=>True) ((Def.at e).mono fun _ _=>trivial) (fun _ _=>Def.bind' (F158_def _ _) (fun _ _=>?_)))
  exact Def.ite (fun _=>.done (.ret trivial)) (fun _=>.turn ⟨rfl,trivial⟩)
theorem F99_def (l : List D0) (t : D4) (hl : l.length ≤ big) (h1 : t.2.2.1.length ≤ big) (h3 : ∀ i,(t.2.2.2.2.2.2.2.2.2.2.1 i).length ≤ big) : Def (F99 l t) fun _=>True:=by
 unfold F99
 simp only [letJ_eq,letV_eq]
 refine Def.times (n:=4) (by omega) (fun i h0 h4=>?_) ?_
 ·refine Def.bind (guard4 h0 h4 (Def.bind (Def.aidx h0 h4 fun k=>Def.bind' (F94_def _ (h3 k)) (fun _ _=>?_))))
  exact Def.ite (fun _=>.done (.ret trivial)) (fun _=>.turn rfl)
 ·refine Def.done (Def.ite (fun _=>.ret trivial) (fun _=>Def.bind' (F94_def _ h1) (fun _ _=>?_)))
  refine Def.bindI (fun _=>True) (fun _=>F100_def _ _ hl h1) (fun _ _ _=>?_)
  exact Def.bindI (fun _=>True) (fun _=>.ret trivial) (fun _ _ _=>.ret trivial)
structure Snd6 (o : D6) : Prop where
 id : 1 ≤ o.1 ∧ o.1 ≤ 2305843009213693952
 kind : 1 ≤ o.2.1 ∧ o.2.1 ≤ 6
 lab : o.2.2.1.length ≤ 16
 fit : FitL o.2.2.1
 quo : 1 ≤ quo o ∧ quo o ≤ 4096
 own : o.2.1 ≠ 2 → lnk o = []
 dat : o.2.1 ≠ 1 → dat o = []
 seg : o.2.1 = 1 → ((Fn.dat o).length : Int) ≤ 16 * (Fn.quo o - 1)
 lns : (Fn.lnk o).length ≤ 64
 lnk : (Fn.lnk o).Pairwise (· < ·)
theorem F34_def (o : D6) (h : OkO o) : Def (F34 o) fun b=>b = true → Snd6 o:=by
 unfold F34
 simp only [F93,Option.bind_some,letV_eq,letJ_eq]
 refine Def.bindI _ (fun _=>F94_def _ h.lab) (fun v2 q2 _=>?_)
 refine Def.bindI _ (fun _=>F95_def o h) (fun v4 q4 _=>?_)
 refine Def.ite (fun _=>.ret (fun h=>by cases h)) (fun hc=>?_)
 simp at hc
 obtain ⟨⟨⟨⟨⟨⟨hid,hk1⟩,hk2⟩,hv2⟩,hq1⟩,hq2⟩,hv4⟩:=hc
 obtain ⟨hlab,hfit⟩:=q2 (by simp [hid,hk1,hk2]) hv2
 obtain ⟨ho,hd⟩:=q4 (by simp [hid,hk1,hk2,hv2,hq1,hq2]) hv4
 have mk : (o.2.1 = 1 → ((Fn.dat o).length : Int) ≤ 16 * (Fn.quo o - 1)) → (o.2.1 = 2 → (Fn.lnk o).length ≤ 64 ∧ (Fn.lnk o).Pairwise (· < ·)) → Snd6 o:=fun h1 h2=>{
  id:=hid,kind:=⟨hk1,hk2⟩,lab:=hlab,fit:=hfit,quo:=⟨hq1,hq2⟩,own:=ho,dat:=hd,seg:=h1
  lns:=by
   by_cases e : o.2.1 = 2
   ·exact (h2 e).1
   ·rw [ho e]; simp
  lnk:=by
   by_cases e : o.2.1 = 2
   ·exact (h2 e).2
   ·rw [ho e]; exact List.Pairwise.nil }
 refine Def.bindI (fun _=>True) (fun _=>F96_def _ (by omega)) (fun v5 _ _=>?_)
 refine Def.ite (fun _=>.ret (fun h=>by cases h)) (fun _=>?_)
 refine Def.ite (fun e1=>.ret (fun hb=>?_)) (fun e1=>?_)
 ·have e1 : o.2.1 = 1:=by simpa using e1
  refine mk (fun _=>?_) (fun e=>by omega)
  have hq : quo o ≤ 4096:=hq2
  have hq' : 1 ≤ quo o:=hq1
  rw [wrap_i64 (x:=o.2.2.2.1 - 1) (by simp only [quo] at hq'; omega) (by simp only [quo] at hq; omega),wrap_i64 (by simp only [quo] at hq'; omega) (by simp only [quo] at hq; omega)] at hb
  simpa using hb
 have e1 : ¬ o.2.1 = 1:=by simpa using e1
 refine Def.ite (fun e2=>?_) (fun e2=>?_)
 ·refine Def.bindI _ (fun _=>F97_def _ h.lnk) (fun v6 q6 _=>.ret (fun hb=>?_))
  refine mk (fun e=>absurd e e1) (fun _=>?_)
  by_cases hn : ((o.2.2.2.2.2.1.length : Nat) : Int) ≤ 64
  ·refine ⟨by simp only [Fn.lnk]; omega,q6 (by simpa using hn) ?_⟩
   rw [if_pos (by simpa using hn)] at hb; exact hb
  ·rw [if_neg (by simpa using hn)] at hb; cases hb
 have e2 : ¬ o.2.1 = 2:=by simpa using e2
 have done : ∀ b : Bool,b = true → Snd6 o:=fun _ _=>mk (fun e=>absurd e e1) (fun e=>absurd e e2)
 refine Def.ite (fun _=>Def.bind' (F98_def _) (fun b _=>.ret (done _))) (fun _=>?_)
 refine Def.ite (fun _=>Def.bind' (F99_def _ _ h.lab h.clr h.lbs) (fun b _=>.ret (done _))) (fun _=>?_)
 refine Def.ite (fun _=>?_) (fun _=>.ret (done _))
 refine Def.bind' (F94_def _ h.gra) (fun b _=>Def.bindI (fun _=>True) (fun _=>(F94_def _ h.gcl).mono fun _ _=>trivial) (fun _ _ _=>?_))
 exact Def.bindI (fun _=>True) (fun _=>F100_def _ _ h.gra h.gcl) (fun _ _ _=>.ret (done _))
theorem F13_def (w : D7) (hn : (objs w).length ≤ big) (h : ∀ o ∈ objs w,OkO o) : Def (F13 w) fun b=>b = true → (objs w).Pairwise (fun a b=>a.1 < b.1) ∧ ∀ o ∈ objs w,Snd6 o:=by
 unfold F13
 refine Def.ite (fun _=>.ret (fun h=>by cases h)) (fun _=>?_)
 simp only [letJ_eq]
 refine Def.for1 (l:=objs w) (fun pre=>pre.Pairwise (fun a b=>a.1 < b.1) ∧ ∀ o ∈ pre,Snd6 o) hn ⟨List.Pairwise.nil,by simp⟩ (fun pre v post e hi=>?_) (fun hi=>.done (.ret fun _=>hi))
 obtain ⟨hi,hs⟩:=hi
 have hv : v ∈ objs w:=by rw [e]; simp
 refine Def.bind' (F34_def v (h v hv)) (fun v3 q3=>?_)
 refine Def.bindI _ (fun hc=>Def.prev e hn (by simp at hc; omega)) (fun u hu _=>?_)
 refine Def.bindI _ (fun hc=>Def.at e) (fun v' hv' _=>?_)
 refine Def.ite (fun _=>.done (.ret (fun h=>by cases h))) (fun hc=>.turn ⟨rfl,?_,?_⟩)
 ·rw [List.pairwise_append]
  refine ⟨hi,by simp,fun x hx y hy=>?_⟩
  simp only [List.mem_singleton] at hy; subst hy
  have h0 : 0 < pre.length:=List.length_pos_of_mem hx
  simp [h0] at hc hu hv'
  have hu:=hu hc.1
  have hv:=hv' hc.1
  have hc2:=hc.2
  rw [hv] at hc2
  obtain ⟨ys,rfl⟩:=List.getLast?_eq_some_iff.1 hu
  rw [List.pairwise_append] at hi
  rcases List.mem_append.1 hx with hx | hx
  ·have:=hi.2.2 x hx u (by simp); omega
  ·simp at hx; subst hx; omega
 ·intro o ho
  rcases List.mem_append.1 ho with ho | ho
  ·exact hs o ho
  ·simp at ho; subst ho
   refine q3 ?_
   simp at hc; exact hc.1
end Go.Fn
namespace Go.Fn
set_option linter.unusedVariables false
open Go Go.Ab Go.Tx
theorem F217_def (l : List D0) (hl : l.length ≤ 1000) : Def (F217 l) fun r=>r.length ≤ l.length:=by
 unfold F217
 simp only [letJ_eq]
 refine Def.for2 (l:=l) (fun pre a=>a.length ≤ pre.length) (by omega) (by simp) (fun pre v post a e hi=>?_) (fun a hi=>.done (.ret hi))
 have hlt : pre.length < l.length:=by rw [e]; simp
 refine Def.bind' (R:=fun _=>True) ((Def.at e).mono fun _ _=>trivial) (fun u _=>?_)
 have h271 : ∀ n,Def (F271 n) fun _=>True:=fun n=>by
  unfold F271
  exact Def.bind' (F219_def _) (fun _ _=>Def.ite (fun _=>.ret trivial) (fun _=>Def.bind' (F219_def _) (fun _ _=>.ret trivial)))
 refine Def.bind' (h271 _) (fun _ _=>Def.bind (.ret (Def.bind (Def.app (by simp only [List.length_cons,List.length_nil]; omega) (.turn ⟨rfl,?_⟩)))))
 simp only [List.length_append,List.length_cons,List.length_nil]; omega
theorem F270_def (a b : Int) : Def (F270 a b) fun _=>True:=by
 unfold F270
 refine Def.bind' (F219_def _) (fun _ _=>Def.bind' (F219_def _) (fun _ _=>?_))
 exact Def.ite (fun _=>Def.bind' (F219_def _) (fun _ _=>.ret trivial)) (fun _=>Def.bind' (F219_def _) (fun _ _=>.ret trivial))
theorem F269_def (l : List D0) (c n : Int) (hl : l.length ≤ 1000) : Def (F269 l c n) fun r=>r.length ≤ l.length + 1:=by
 unfold F269
 simp only [letJ_eq]
 refine Def.forB (l:=l) (fun s : List D0 × Bool × Int=>s.2.2) (fun pre s=>s.1.length ≤ pre.length + (if s.2.1 = true then 1 else 0)) (by omega) rfl (by simp) (fun pre v post s e hs hi=>?_) (fun s hs hi=>?_)
 ·have hlt : pre.length < l.length:=by rw [e]; simp
  have hat : ∀ Q : D0 → Prop,Q v → Def (idxO l s.2.2) Q:=fun Q h=>by rw [hs]; exact (Def.at e).mono fun _ h'=>by rw [h']; exact h
  have step : ∀ (a : List D0) (b : Bool),a.length ≤ pre.length + (if b = true then 1 else 0) → Def (Option.bind (idxO l s.2.2) fun v9=>if (v9.1 != c) = true then Option.bind (idxO l s.2.2) fun v10=>Option.bind (some [v10]) fun v11=>Option.bind (appO 16 a v11) fun v12=>turn (v12,b,IntKind.wrap .i64 (s.2.2 + 1)) else turn (a,b,IntKind.wrap .i64 (s.2.2 + 1))) (fun r : (List D0 × Bool × Int) ⊕ List D0=>match r with | .inl s'=>s'.2.2 = IntKind.wrap .i64 ((pre.length : Int) + 1) ∧ s'.1.length ≤ (pre ++ [v]).length + (if s'.2.1 = true then 1 else 0) | .inr r=>r.length ≤ l.length + 1):=by
   intro a b ha
   have hb1 : (if b = true then 1 else 0) ≤ 1:=by split <;> omega
   refine Def.bind (hat _ (Def.ite (fun _=>Def.bind (hat _ (Def.bind (.ret (Def.bind (Def.app (by simp only [List.length_cons,List.length_nil]; omega) (.turn ⟨by rw [hs],?_⟩)))))) ) (fun _=>.turn ⟨by rw [hs],?_⟩)))
   ·simp only [List.length_append,List.length_cons,List.length_nil]; omega
   ·simp only [List.length_append,List.length_cons,List.length_nil]; omega
  refine Def.bindI (fun _=>True) (fun _=>hat _ trivial) (fun v6 _ _=>?_)
  refine Def.ite (fun hc=>?_) (fun hc=>(step _ _ hi).mono fun r hr=>by cases r <;> exact hr)
  have hf : s.2.1 = false:=by
   cases hq : s.2.1 with
   | false=>rfl
   | true=>rw [hq] at hc; simp at hc
  rw [hf] at hi
  refine Def.bind (.ret (Def.bind (Def.app (by simp only [List.length_cons,List.length_nil]; simp at hi; omega) ((step _ _ ?_).mono fun r hr=>by cases r <;> exact hr))))
  simp only [List.length_append,List.length_cons,List.length_nil]
  simp at hi ⊢; omega
 ·refine .done (Def.ite (fun hc=>?_) (fun hc=>.ret ?_))
  ·have hf : s.2.1 = false:=by simpa using hc
   rw [hf] at hi
   simp at hi
   refine Def.bind (.ret (Def.bind (Def.app (by simp only [List.length_cons,List.length_nil]; omega) (.ret ?_))))
   simp only [List.length_append,List.length_cons,List.length_nil]; omega
  ·have hb1 : (if s.2.1 = true then 1 else 0) ≤ 1:=by split <;> omega
   omega
theorem F216_def (a : List D0) (ha : a.length ≤ 100) : Def (F216 a []) fun r=>r.length ≤ 2 * a.length:=by
 unfold F216
 simp only [letJ_eq]
 refine Def.for2 (l:=a) (fun pre s=>s.length ≤ a.length + pre.length) (by omega) (by simp) (fun pre v post s e hi=>?_) (fun s hi=>.done ?_)
 ·have hlt : pre.length < a.length:=by rw [e]; simp
  refine Def.bind' (R:=fun _=>True) ((Def.at e).mono fun _ _=>trivial) (fun _ _=>Def.bind' (R:=fun _=>True) ((Def.at e).mono fun _ _=>trivial) (fun _ _=>?_))
  refine Def.bind' (F159_def _ _ (by simp)) (fun _ _=>Def.bind' (F270_def _ _) (fun _ _=>Def.bind' (F269_def _ _ _ (by simp only; omega)) (fun r hr=>.turn ⟨rfl,?_⟩)))
  simp only [List.length_append,List.length_cons,List.length_nil] at hr ⊢; omega
 ·refine Def.for2 (l:=([] : List D0)) (fun pre x=>x.length ≤ 2 * a.length) (by simp) (by simp only; omega) (fun pre v post s e hi=>by cases pre <;> cases e) (fun s hi=>.done (.ret hi))
theorem F153_def (d o : List D0) (hd : d.length ≤ 100) (ho : o.length ≤ 100) : Def (F153 d o) fun _=>True:=by
 unfold F153
 refine Def.bind' (F217_def _ (by omega)) (fun r hr=>Def.bind' (F216_def _ (by omega)) (fun r' hr'=>Def.bind' (F100_def _ _ (by unfold big; omega) (by unfold big; omega)) (fun _ _=>.ret trivial)))
theorem findO_of {l : List D6} {id : Int} (h : (findO l id).2 = true) : (findO l id).1 ∈ l ∧ (findO l id).1.1 = id:=by
 unfold findO at h ⊢
 cases hf : l.find? (fun o=>o.1 == id) with
 | none=>rw [hf] at h; cases h
 | some o =>
  have:=List.find?_some hf
  exact ⟨List.mem_of_find?_eq_some hf,by simpa using this⟩
theorem F90_def (w : D7) (d : D6) (hn : (objs w).length ≤ 1000) (hs : ∀ o ∈ objs w,o.2.2.1.length ≤ 16) (hd : d.2.2.1.length ≤ 16) (hk : (lnk d).length ≤ 1000) (hdat : (dat d).length ≤ 1000000) : Def (F90 w d) fun b=>b = true → (∀ x ∈ lnk d,∃ y ∈ objs w,y.1 = x) ∧ (d.2.1 = 2 → usesF (objs w) (pages d) (lnk d) ≤ quo d):=by
 unfold F90
 simp only [letJ_eq]
 refine Def.for1 (l:=lnk d) (fun pre=>∀ x ∈ pre,∃ y ∈ objs w,y.1 = x) (by omega) (by simp) (fun pre v post e hi=>?_) (fun hi=>.done ?_)
 ·refine Def.bind (Def.of (F43_eq w v hn) ?_)
  refine Def.bindI (fun _=>True) (fun hc=>F153_def _ _ (by omega) ?_) (fun v5 _ _=>?_)
  ·have:=hs _ (findO_of (by simpa using hc)).1; omega
  ·refine Def.ite (fun _=>.done (.ret (fun h=>by cases h))) (fun hc=>.turn ⟨rfl,fun x hx=>?_⟩)
   rcases List.mem_append.1 hx with hx | hx
   ·exact hi x hx
   ·simp only [List.mem_singleton] at hx
    subst hx
    simp at hc
    exact ⟨_,findO_of hc.1⟩
 ·refine Def.bindI (fun v=>v = usesF (objs w) (pages d) (lnk d)) (fun _=>Def.of (F36_eq w d hn hdat hk) rfl) (fun v2 q2 _=>.ret (fun hb=>⟨hi,fun e=>?_⟩))
  have q:=q2 (by simp [e])
  simp [e] at hb
  rw [← q]; exact hb
theorem F231_def (a b c : Int) : Def (F231 a b c) fun _=>True:=by
 unfold F231 F277
 refine Def.bind' (R:=fun _=>True) (Def.bind (Def.shr (by decide) fun _=>Def.bind (Def.shr (by decide) fun _=>Def.bind (Def.shr (by decide) fun _=>.ret trivial)))) (fun _ _=>Def.bind (Def.shr (by decide) fun _=>.ret trivial))
theorem F185_def (a b : Int) : Def (F185 a b) fun _=>True:=by
 unfold F185
 simp only [letJ_eq]
 refine Def.bind (Def.shr (by decide) fun v2=>?_)
 refine Def.loop (fun s : Int × Int × Int=>0 ≤ s.2.2 ∧ s.2.2 ≤ 8) (fun s=>8 - s.2.2.toNat) ⟨by simp,by simp⟩ (fun s hi=>?_)
 obtain ⟨h1,h2⟩:=hi
 refine Def.ite (fun hc=>?_) (fun hc=>.done (Def.bind (Def.shl (by decide) fun _=>.ret trivial)))
 have hc : s.2.2 < 8:=by simpa using hc
 have hw : IntKind.wrap .u64 (s.2.2 + 1) = s.2.2 + 1:=wrap_in (by simp [inR]; omega)
 refine Def.bind (Def.rem (by decide) fun v6=>Def.ite (fun _=>?_) (fun _=>?_))
 ·refine Def.bind' (F231_def _ _ _) (fun _ _=>.turn ?_)
  simp only [hw]
  exact ⟨⟨by omega,by omega⟩,by omega⟩
 ·refine Def.bind' (F231_def _ _ _) (fun _ _=>.turn ?_)
  simp only [hw]
  exact ⟨⟨by omega,by omega⟩,by omega⟩
theorem F122_def (a : Int) (s : D2) (b : Int) : Def (F122 a s b) fun _=>True:=by
 unfold F122
 exact Def.bind' (F185_def _ _) (fun _ _=>.ret trivial)
theorem F92_def (w : D7) (hn : (objs w).length ≤ 1000) : Def (F92 w) fun _=>True:=by
 unfold F92
 simp only [letJ_eq]
 refine Def.for1 (l:=objs w) (fun _=>True) (by omega) trivial (fun pre v post e _=>?_) (fun _=>.done (.ret trivial))
 refine Def.loop (fun i : Int=>0 ≤ i ∧ i ≤ (objs w).length) (fun i : Int=>(objs w).length - i.toNat) ⟨by simp,by omega⟩ (fun i hi=>?_)
 refine Def.ite (fun hc=>?_) (fun hc=>.done (.turn ⟨rfl,trivial⟩))
 have hlt : i < (objs w).length:=by
  by_cases h : i < (objs w).length
  ·exact h
  ·exfalso; simp only [objs] at h; rw [if_neg (by simpa using h)] at hc; cases hc
 refine Def.bind (Def.idx hi.1 hlt (fun o _ _=>Def.bind' (F122_def _ _ _) (fun _ _=>?_)))
 refine Def.bindI (fun _=>True) (fun _=>?_) (fun _ _ _=>Def.ite (fun _=>.done (.done (.ret trivial))) (fun _=>.turn ?_))
 ·unfold F123
  exact .ret trivial
 ·rw [wrap_i64 (by omega) (by omega)]
  exact ⟨⟨by omega,by omega⟩,by omega⟩
theorem pages_seg {o : D6} (h : Snd6 o) (hk : o.2.1 ≠ 2) : pages o ≤ quo o:=by
 unfold pages
 have:=h.quo
 by_cases e : o.2.1 = 1
 ·have:=h.seg e
  omega
 ·rw [h.dat e]
  simp
  omega
theorem F33_def (w : D7) (hn : (objs w).length ≤ 16) (hf : ∀ o ∈ objs w,FewO o) (h : ∀ o ∈ objs w,OkO o) : Def (F33 w) fun b=>b = true → Whole (objs w) w.2.2.1 ∧ ∀ o ∈ objs w,Snd6 o:=by
 unfold F33
 refine Def.bind (Def.of (F43_eq w _ (by omega)) ?_)
 refine Def.bind' (F13_def w (by unfold big; omega) h) (fun v2 q2=>?_)
 refine Def.ite (fun _=>.ret (fun h=>by cases h)) (fun hc=>?_)
 simp at hc
 obtain ⟨hids,hsn⟩:=q2 hc.1
 simp only [letJ_eq]
 have hl : ∀ o ∈ objs w,(lnk o).length ≤ 1000:=fun o ho=>by have:=(hf o ho).2.1; simp only [lnk]; omega
 refine Def.for1 (l:=objs w) (fun pre=>∀ o ∈ pre,((∀ x ∈ lnk o,∃ y ∈ objs w,y.1 = x) ∧ (o.2.1 = 2 → usesF (objs w) (pages o) (lnk o) ≤ quo o)) ∧ placedB (objs w) w.2.2.1 o = true) (by omega) (by simp) (fun pre v post e hi=>?_) (fun hi=>.done ?_)
 ·have hv : v ∈ objs w:=by rw [e]; simp
  refine Def.bind' (F90_def w v (by omega) (fun o ho=>(hsn o ho).lab) (hsn v hv).lab (hl v hv) (by have:=(hf v hv).2.2.1; simp only [dat]; omega)) (fun v5 q5=>?_)
  refine Def.bindI _ (fun _=>Def.at e) (fun v6 q6 _=>?_)
  refine Def.bindI (fun v=>v = placedB (objs w) w.2.2.1 v6) (fun _=>Def.of (F91_eq w v6 (by omega) hl) rfl) (fun v7 q7 _=>?_)
  refine Def.ite (fun _=>.done (.ret (fun h=>by cases h))) (fun hc=>.turn ⟨rfl,fun o ho=>?_⟩)
  rcases List.mem_append.1 ho with ho | ho
  ·exact hi o ho
  ·simp only [List.mem_singleton] at ho
   subst ho
   simp at hc
   have e6:=q6 (by simp [hc.1])
   subst e6
   have e7:=q7 (by simp [hc.1])
   rw [hc.2] at e7
   exact ⟨q5 hc.1,e7.symm⟩
 ·refine Def.bind' (F92_def w (by omega)) (fun v _=>.ret (fun _=>⟨?_,hsn⟩))
  exact {
   few:=hn,ids:=hids,quo:=fun o ho=>(hsn o ho).quo
   dat:=fun o ho=>(hf o ho).2.2.1,lns:=fun o ho=>(hf o ho).2.1
   own:=fun o ho hk=>⟨(hsn o ho).own hk,pages_seg (hsn o ho) hk⟩
   lnk:=fun o ho=>(hsn o ho).lnk,has:=fun o ho=>(hi o ho).1.1,uses:=fun o ho=>(hi o ho).1.2
   top:=⟨_,findO_of hc.2⟩,placed:=fun o ho=>(hi o ho).2 }
end Go.Fn
namespace Go.Fn
set_option linter.unusedVariables false
open Go Go.Ab Go.Tx
theorem shr_half {i j : Nat} (hn : i + j ≤ 4611686018427387904) : shrO .u64 (IntKind.wrap .u64 (IntKind.wrap .i64 ((i : Int) + j))) 1 = some (((i + j) / 2 : Nat) : Int):=by
 rw [wrap_i64 (x:=(i : Int) + j) (by omega) (by omega)]
 have e : IntKind.wrap .u64 ((i : Int) + j) = (i : Int) + j:=wrap_in (by simp [inR]; omega)
 rw [e,shrO,if_pos (by decide)]
 have e2 : ((i : Int) + j).fdiv (2 ^ (min (1 : Int).toNat (IntKind.bits .u64))) = (((i + j) / 2 : Nat) : Int):=by
  rw [show min (1 : Int).toNat (IntKind.bits .u64) = 1 from by decide,Int.fdiv_eq_ediv_of_nonneg _ (by decide)]
  simp
 rw [e2]
section
variable {ρ : Type}
theorem Def.search {n m : Nat} (hm : m ≤ n) (hn : n ≤ 1000000) {B E : Int × Int → Option ((Int × Int) ⊕ ρ)} {Q : ρ → Prop}
  (hb : ∀ i j : Nat,i < j → j ≤ n → i ≤ m → m ≤ j → Def (B ((i : Int),(j : Int))) fun r=>match r with | .inl s=>(s = ((((i + j) / 2 : Nat) : Int) + 1,(j : Int)) ∧ (i + j) / 2 < m) ∨ (s = ((i : Int),(((i + j) / 2 : Nat) : Int)) ∧ m ≤ (i + j) / 2) | .inr r=>Q r)
  (he : Def (E ((m : Int),(m : Int))) fun r=>match r with | .inl _=>False | .inr r=>Q r) :
  Def (whileO (fun s=>if decide (s.1 < s.2) = true then B s else E s) ((0 : Int),(n : Int))) Q:=by
 refine Def.loop (fun s : Int × Int=>∃ i j : Nat,s = ((i : Int),(j : Int)) ∧ i ≤ m ∧ m ≤ j ∧ j ≤ n) (fun s=>(s.2 - s.1).toNat) ⟨0,n,rfl,by omega,hm,by omega⟩ (fun s hi=>?_)
 obtain ⟨i,j,rfl,h1,h2,h3⟩:=hi
 refine Def.ite (fun hc=>?_) (fun hc=>?_)
 ·have hlt : i < j:=by simpa using hc
  refine (hb i j hlt h3 h1 h2).mono fun r hr=>?_
  cases r with
  | inr r=>exact hr
  | inl s =>
   rcases hr with ⟨rfl,h⟩ | ⟨rfl,h⟩
   ·exact ⟨⟨(i + j) / 2 + 1,j,by simp,by omega,by omega,by omega⟩,by simp only; omega⟩
   ·exact ⟨⟨i,(i + j) / 2,rfl,by omega,by omega,by omega⟩,by simp only; omega⟩
 ·have hge : ¬ i < j:=by simpa using hc
  have e1 : i = m:=by omega
  have e2 : j = m:=by omega
  subst e1; subst e2
  refine he.mono fun r hr=>?_
  cases r with
  | inl s=>exact hr.elim
  | inr r=>exact hr
end
theorem F203_eq (a b : Int) : F203 a b = some (if a < b then -1 else if b < a then 1 else 0):=by
 unfold F203 F204
 simp only [Option.bind_some,letJ_eq,bne_self_eq_false,Bool.false_eq_true,if_false]
 by_cases h1 : a < b
 ·simp [h1]
 ·by_cases h2 : b < a
  ·simp [h1,h2]
  ·simp [h1,h2]
theorem F134_eq (a b : Int) : F134 a b = some (decide (a < b)):=by
 unfold F134 F204
 simp
theorem F70_eq (l : List Int) (t : Int) (hl : l.length ≤ 1000000) (hp : l.Pairwise (· < ·)) : F70 l t = some ((lowB l t : Int),decide (t ∈ l)):=by
 refine Def.eq ?_
 unfold F70
 simp only [letJ_eq]
 refine Def.search (n:=l.length) (m:=lowB l t) (lowB_le l t) hl (fun i j hij hj h1 h2=>?_) (.done ?_)
 ·simp only
  rw [shr_half (by omega)]
  have hk : (i + j) / 2 < l.length:=by omega
  have ew : IntKind.wrap .i64 (((i + j) / 2 : Nat) : Int) = (((i + j) / 2 : Nat) : Int):=wrap_i64 (by omega) (by omega)
  have ew2 : IntKind.wrap .i64 ((((i + j) / 2 : Nat) : Int) + 1) = (((i + j) / 2 : Nat) : Int) + 1:=wrap_i64 (by omega) (by omega)
  rw [Option.bind_some]
  simp only [ew,ew2]
  refine Def.bind (Def.idx (by omega) (by omega) (fun v hv _=>?_))
  simp only [Int.toNat_natCast] at hv
  have hlow:=lowB_lt hp t _ v hv
  rw [F134_eq,Option.bind_some]
  refine Def.ite (fun hc=>.turn (.inl ⟨rfl,?_⟩)) (fun hc=>.turn (.inr ⟨rfl,?_⟩))
  ·exact hlow.1 (by simpa using hc)
  ·have : ¬ v < t:=by simpa using hc
   exact Nat.le_of_not_lt fun h=>this (hlow.2 h)
 ·simp only [F135,bne_self_eq_false]
  by_cases hlt : lowB l t < l.length
  ·have hg:=List.getElem?_eq_getElem hlt
   have hm:=lowB_mem hp hg
   have h1 : idxO l (lowB l t : Int) = some l[lowB l t]:=by rw [idxO_nat,hg]
   have hd : decide (((lowB l t : Nat) : Int) < ((l.length : Nat) : Int)) = true:=by simpa using hlt
   simp only [hd,h1,Bool.and_true,Bool.true_and,if_true,Option.bind_some]
   by_cases he : l[lowB l t] = t
   ·simp [he,hm.2 he,Def]
   ·have : t ∉ l:=fun h=>he (hm.1 h)
    simp [he,this,Def]
  ·have hd : decide (((lowB l t : Nat) : Int) < ((l.length : Nat) : Int)) = false:=by simpa using hlt
   have : t ∉ l:=lowB_end hp (by omega)
   simp only [hd,Bool.false_and,Bool.false_eq_true,if_false,Option.bind_some]
   exact ⟨_,rfl,by simp [this]⟩
abbrev keys (l : List D6) : List Int:=l.map (·.1)
theorem keys_rise {l : List D6} (h : l.Pairwise (fun a b=>a.1 < b.1)) : (keys l).Pairwise (· < ·):=by
 rw [List.pairwise_map]; exact h
theorem F69_eq (w : D7) (id : Int) (hl : (objs w).length ≤ 1000000) (hp : (objs w).Pairwise (fun a b=>a.1 < b.1)) : F69 w id = some (findO (objs w) id):=by
 refine Def.eq ?_
 unfold F69 F132
 rw [Option.bind_some]
 have e0 : ((sett9_1_1 (sett9_0_1 (Ty.zero t9 : D9) w.2.2.2.1) ()) : D8).1 = objs w:=rfl
 simp only [letJ_eq,e0]
 have hk:=keys_rise hp
 have hlen : (keys (objs w)).length = (objs w).length:=by simp [keys]
 have hge : ∀ (k : Nat) (v : D6),(objs w)[k]? = some v → (keys (objs w))[k]? = some v.1:=fun k v h=>by simp [keys,h]
 refine Def.search (n:=(objs w).length) (m:=lowB (keys (objs w)) id) (by rw [← hlen]; exact lowB_le _ _) hl (fun i j hij hj h1 h2=>?_) (.done ?_)
 ·simp only
  rw [shr_half (by omega)]
  have ew : IntKind.wrap .i64 (((i + j) / 2 : Nat) : Int) = (((i + j) / 2 : Nat) : Int):=wrap_i64 (by omega) (by omega)
  have ew2 : IntKind.wrap .i64 ((((i + j) / 2 : Nat) : Int) + 1) = (((i + j) / 2 : Nat) : Int) + 1:=wrap_i64 (by omega) (by omega)
  rw [Option.bind_some]
  simp only [ew,ew2]
  refine Def.bind (Def.idx (by omega) (by show _ < (((objs w).length : Nat) : Int); omega) (fun v hv _=>?_))
  simp only [Int.toNat_natCast] at hv
  have hlow:=lowB_lt hk id _ v.1 (hge _ _ hv)
  rw [F145,Option.bind_some,F203_eq,Option.bind_some]
  refine Def.ite (fun hc=>.turn (.inl ⟨rfl,?_⟩)) (fun hc=>.turn (.inr ⟨rfl,?_⟩))
  ·refine hlow.1 ?_
   by_cases h : v.1 < id
   ·exact h
   ·by_cases h' : id < v.1 <;> simp [h,h'] at hc
  ·have : ¬ v.1 < id:=fun h=>by simp [h] at hc
   exact Nat.le_of_not_lt fun h=>this (hlow.2 h)
 ·by_cases hlt : lowB (keys (objs w)) id < (objs w).length
  ·have hg:=List.getElem?_eq_getElem hlt
   have hm:=lowB_mem hk (hge _ _ hg)
   have h1 : idxO (objs w) (lowB (keys (objs w)) id : Int) = some (objs w)[lowB (keys (objs w)) id]:=by rw [idxO_nat,hg]
   have hd : decide (((lowB (keys (objs w)) id : Nat) : Int) < (((objs w).length : Nat) : Int)) = true:=by simpa using hlt
   generalize ho : (objs w)[lowB (keys (objs w)) id] = o at h1 hm
   have hin : o ∈ objs w:=by rw [← ho]; exact List.getElem_mem hlt
   simp only [hd,h1,Bool.and_true,if_true,Option.bind_some,F145,F203_eq]
   by_cases he : o.1 = id
   ·subst he
    refine ⟨_,by simp only [Int.lt_irrefl,if_false]; rfl,?_⟩
    exact (findO_mem hp o hin).symm
   ·have hno : ∀ x ∈ objs w,x.1 ≠ id:=fun x hx e=>he (hm.1 (List.mem_map.2 ⟨x,hx,e⟩))
    refine ⟨_,?_,rfl⟩
    rw [findO_none hno]
    have : ¬ ((if o.1 < id then (-1 : Int) else if id < o.1 then 1 else 0) == 0) = true:=by
     by_cases h1 : o.1 < id
     ·simp [h1]
     ·by_cases h2 : id < o.1
      ·simp [h1,h2]
      ·omega
    rw [if_pos (by simpa using this)]
  ·have hd : decide (((lowB (keys (objs w)) id : Nat) : Int) < (((objs w).length : Nat) : Int)) = false:=by simpa using hlt
   have hno : ∀ x ∈ objs w,x.1 ≠ id:=fun x hx e=>lowB_end hk (by rw [hlen]; omega) (List.mem_map.2 ⟨x,hx,e⟩)
   simp only [hd,Bool.false_and,Bool.false_eq_true,if_false,Option.bind_some]
   exact ⟨_,rfl,(findO_none hno).symm⟩
theorem F68_eq (o : D6) (h : (dat o).length ≤ 1000000) : F68 o = some (pages o):=by
 unfold F68
 have h' : (o.2.2.2.2.2.2.1).length ≤ 1000000:=h
 have e2 : (((o.2.2.2.2.2.2.1).length : Nat) : Int).tdiv 16 = ((o.2.2.2.2.2.2.1).length : Int) / 16:=Int.tdiv_eq_ediv_of_nonneg (by omega)
 have e3 : (((o.2.2.2.2.2.2.1).length : Nat) : Int).tmod 16 = ((o.2.2.2.2.2.2.1).length : Int) % 16:=Int.tmod_eq_emod_of_nonneg (by omega)
 rw [quoO,if_pos (by decide),e2,Option.bind_some,remO,if_pos (by decide),e3,Option.bind_some]
 simp only [letJ_eq]
 rw [wrap_i64 (x:=((o.2.2.2.2.2.2.1).length : Int) / 16) (by omega) (by omega),wrap_i64 (x:=((o.2.2.2.2.2.2.1).length : Int) / 16 + 1) (by omega) (by omega)]
 unfold pages
 split
 ·rename_i hc
  have hc : ((o.2.2.2.2.2.2.1).length : Int) % 16 > 0:=by simpa using hc
  rw [wrap_i64 (by omega) (by omega)]
  simp only [dat,Option.some.injEq]; omega
 ·rename_i hc
  have hc : ¬ ((o.2.2.2.2.2.2.1).length : Int) % 16 > 0:=by simpa using hc
  simp only [dat,Option.some.injEq]; omega
theorem F35_eq (w : D7) (o : D6) (hl : (objs w).length ≤ 1000000) (hp : (objs w).Pairwise (fun a b=>a.1 < b.1)) (hd : (dat o).length ≤ 1000000) (hk : (lnk o).length ≤ 1000) : F35 w o = some (usesF (objs w) (pages o) (lnk o)):=by
 refine Def.eq ?_
 unfold F35
 rw [F68_eq o hd,Option.bind_some]
 simp only [letJ_eq]
 have e0 : ((sett11_0_4 (Ty.zero t11 : D11) w) : D11).1 = w:=rfl
 refine Def.forB (l:=lnk o) (fun s : Int × Int=>s.1) (fun pre s=>s.2 = usesF (objs w) (pages o) pre) (by omega) rfl rfl (fun pre v post s e hs hi=>?_) (fun s hs hi=>.done (.ret hi))
 rw [hs]
 refine Def.bind' (Def.at e) (fun u hu=>?_)
 subst hu
 refine Def.bind (Def.of (F69_eq w u hl hp) (.turn ⟨rfl,?_⟩))
 rw [hi]
 simp only [usesF,List.foldl_append,List.foldl_cons,List.foldl_nil]
theorem F37_eq (w : D7) (o : D6) (hl : (objs w).length ≤ 1000000) (hp : (objs w).Pairwise (fun a b=>a.1 < b.1)) (hd : (dat o).length ≤ 1000000) (hk : (lnk o).length ≤ 1000) : F37 w o = some (IntKind.wrap .i64 (quo o - usesF (objs w) (pages o) (lnk o))):=by
 unfold F37
 rw [F35_eq w o hl hp hd hk,Option.bind_some]
end Go.Fn
namespace Go.Fn
set_option linter.unusedVariables false
open Go Go.Ab Go.Tx
theorem okO_of {o : D6} (h : wfT t6 o) : OkO o:=by
 obtain ⟨_,_,h1,_,_,h2,h3,h4,h5,h6,h7,h8,_⟩:=h
 obtain ⟨_,_,c1,_,_,_,_,_,c2,_,c3,_⟩:=h5
 obtain ⟨g1,g2,_⟩:=h6
 exact ⟨h1.1,h2.1,h3.1,h4.1,c1.1,c2.1,fun i=>(c3 i).1,g1.1,g2.1,h7.1,h8.1⟩
theorem ok_of {w : D7} (h : wfT t7 w) : (objs w).length ≤ big ∧ ∀ o ∈ objs w,OkO o:=by
 obtain ⟨_,_,_,h,_⟩:=h
 exact ⟨h.1,fun o ho=>okO_of (h.2 o ho)⟩
end Go.Fn
namespace Go.Fn
set_option linter.unusedVariables false
open Go Go.Ab Go.Tx
def raiseN (n : Int) : Int:=if n = 0 then 5 else n
def raiseL (l : List D0) : List D0:=l.map fun p=>(p.1,raiseN p.2.1,())
theorem F301_eq {n : Int} (h0 : 0 ≤ n) (h5 : n ≤ 5) : F301 n = some n:=by
 unfold F301 F278
 simp [h0,h5]
theorem F268_eq {n : Int} (h0 : 0 ≤ n) (h5 : n ≤ 5) : F268 n = some (raiseN n):=by
 unfold F268
 rw [F301_eq h0 h5,Option.bind_some,raiseN]
 by_cases h : n = 0 <;> simp [h]
theorem F210_eq (l : List D0) (hl : l.length ≤ 1000) (hf : FitL l) : F210 l = some (raiseL l):=by
 refine Def.eq ?_
 unfold F210
 simp only [letJ_eq]
 refine Def.loop (fun s : List D0 × List D0 × List D0=>s.1 = [] ∧ ∃ pre,l = pre ++ s.2.1 ∧ s.2.2 = raiseL pre) (fun s=>s.2.1.length) ⟨rfl,[],rfl,rfl⟩ (fun s hi=>?_)
 obtain ⟨b,a,out⟩:=s
 obtain ⟨rfl,pre,e,rfl⟩:=hi
 simp only at e
 cases a with
 | nil =>
  refine Def.ite (fun hc=>?_) (fun _=>.done (.ret (by simp only [List.append_nil] at e; rw [e])))
  simp [IntKind.wrap] at hc
  exact absurd hc (by decide)
 | cons p a =>
  have hlen : pre.length + (a.length + 1) ≤ 1000:=by rw [e] at hl; simpa using hl
  obtain ⟨h0,h5,h2⟩:=hf.lev p (by rw [e]; simp)
  have hw : IntKind.wrap .i64 ((((p :: a).length : Nat) : Int) + (([] : List D0).length : Nat)) = (a.length : Int) + 1:=by
   rw [wrap_i64 (by simp only [List.length_cons,List.length_nil]; omega) (by simp only [List.length_cons,List.length_nil]; omega)]
   simp
  have hi0 : idxO (p :: a) 0 = some p:=rfl
  have hs : slcO (p :: a) 1 ((a.length : Int) + 1) = some a:=by
   rw [slcO,if_pos ⟨by omega,by omega,by simp⟩]
   simp
  have hr : raiseN p.2.1 ≠ 2:=by unfold raiseN; split <;> omega
  refine Def.ite (fun _=>?_) (fun hc=>?_)
  ·have hne : ((a.length : Int) + 1 == 0) = false:=by simp; omega
   have hpos : decide ((a.length : Int) + 1 > 0) = true:=by simp only [gt_iff_lt,decide_eq_true_eq]; omega
   have hr' : (raiseN p.2.1 != 2) = true:=by simpa using hr
   have el : (((p :: a).length : Nat) : Int) = (a.length : Int) + 1:=by simp
   have en : ((([] : List D0).length : Nat) : Int) = 0:=rfl
   simp only [hi0,hs,el,en,hne,hpos,hr',F267,F268_eq h0 h5,Option.bind_some,beq_self_eq_true,if_true,Bool.not_true,Bool.not_false,Bool.false_and,Bool.and_false,Bool.false_eq_true,if_false,Bool.and_self,Bool.and_true,Int.lt_irrefl,gt_iff_lt,decide_false]
   refine Def.bind (Def.app (by simp only [raiseL,List.length_cons,List.length_nil,List.length_map]; omega) (.turn ⟨⟨rfl,pre ++ [p],by simpa using e,?_⟩,by simp⟩))
   simp [raiseL]
  ·simp only [hw] at hc
   simp at hc
def getL (l : List D0) (c : Int) : Int:=match l.find? (fun p=>p.1 == c) with | some p=>p.2.1 | none=>2
theorem getL_mem : ∀ {l : List D0},l.Pairwise (fun a b=>a.1 < b.1) → ∀ p ∈ l,getL l p.1 = p.2.1
 | [],_,o,h=>by cases h
 | a :: l,hp,o,h=>by
  obtain ⟨h1,h2⟩:=List.pairwise_cons.1 hp
  rcases List.mem_cons.1 h with rfl | h
  ·simp [getL]
  ·have:=h1 o h
   have hne : (a.1 == o.1) = false:=by simp; omega
   have ih:=getL_mem h2 o h
   unfold getL at ih ⊢
   rw [List.find?_cons,hne]
   exact ih
theorem getL_none {l : List D0} {c : Int} (h : ∀ p ∈ l,p.1 ≠ c) : getL l c = 2:=by
 have : l.find? (fun p=>p.1 == c) = none:=List.find?_eq_none.2 fun p hp=>by simpa using h p hp
 unfold getL
 rw [this]
theorem F300_eq (p : D0) (c : Int) : F300 p c = some (if p.1 < c then -1 else if c < p.1 then 1 else 0):=by
 unfold F300
 rw [F203_eq,Option.bind_some]
theorem F209_eq (l : List D0) (c : Int) (hl : l.length ≤ 1000000) (hp : l.Pairwise (fun a b=>a.1 < b.1)) : F209 l c = some (getL l c):=by
 have hk : (l.map (·.1)).Pairwise (· < ·):=by rw [List.pairwise_map]; exact hp
 have hlen : (l.map (·.1)).length = l.length:=by simp
 have hge : ∀ (k : Nat) (v : D0),l[k]? = some v → (l.map (·.1))[k]? = some v.1:=fun k v h=>by simp [h]
 have h265 : Def (F265 l c) fun r=>Def (if r.2 = true then Option.bind (idxO l r.1) fun v=>some v.2.1 else some 2) fun r=>r = getL l c:=by
  unfold F265
  simp only [letJ_eq]
  refine Def.search (n:=l.length) (m:=lowB (l.map (·.1)) c) (by rw [← hlen]; exact lowB_le _ _) hl (fun i j hij hj h1 h2=>?_) (.done ?_)
  ·simp only
   rw [shr_half (by omega)]
   have ew : IntKind.wrap .i64 (((i + j) / 2 : Nat) : Int) = (((i + j) / 2 : Nat) : Int):=wrap_i64 (by omega) (by omega)
   have ew2 : IntKind.wrap .i64 ((((i + j) / 2 : Nat) : Int) + 1) = (((i + j) / 2 : Nat) : Int) + 1:=wrap_i64 (by omega) (by omega)
   rw [Option.bind_some]
   simp only [ew,ew2]
   refine Def.bind (Def.idx (by omega) (by omega) (fun v hv _=>?_))
   simp only [Int.toNat_natCast] at hv
   have hlow:=lowB_lt hk c _ v.1 (hge _ _ hv)
   rw [F300_eq,Option.bind_some]
   refine Def.ite (fun hc=>.turn (.inl ⟨rfl,?_⟩)) (fun hc=>.turn (.inr ⟨rfl,?_⟩))
   ·refine hlow.1 ?_
    by_cases h : v.1 < c
    ·exact h
    ·by_cases h' : c < v.1 <;> simp [h,h'] at hc
   ·have : ¬ v.1 < c:=fun h=>by simp [h] at hc
    exact Nat.le_of_not_lt fun h=>this (hlow.2 h)
  ·by_cases hlt : lowB (l.map (·.1)) c < l.length
   ·have hg:=List.getElem?_eq_getElem hlt
    have hm:=lowB_mem hk (hge _ _ hg)
    have h1 : idxO l (lowB (l.map (·.1)) c : Int) = some l[lowB (l.map (·.1)) c]:=by rw [idxO_nat,hg]
    have hd : decide (((lowB (l.map (·.1)) c : Nat) : Int) < ((l.length : Nat) : Int)) = true:=by simpa using hlt
    generalize ho : l[lowB (l.map (·.1)) c] = o at h1 hm
    have hin : o ∈ l:=by rw [← ho]; exact List.getElem_mem hlt
    simp only [hd,h1,Bool.and_true,if_true,Option.bind_some,F300_eq]
    by_cases he : o.1 = c
    ·subst he
     refine ⟨_,rfl,?_⟩
     simp only [Int.lt_irrefl,if_false]
     refine ⟨_,?_,(getL_mem hp o hin).symm⟩
     simp [h1]
    ·have hno : ∀ x ∈ l,x.1 ≠ c:=fun x hx e=>he (hm.1 (List.mem_map.2 ⟨x,hx,e⟩))
     refine ⟨_,rfl,?_⟩
     rw [getL_none hno]
     have : ¬ ((if o.1 < c then (-1 : Int) else if c < o.1 then 1 else 0) == 0) = true:=by
      by_cases h1 : o.1 < c
      ·simp [h1]
      ·by_cases h2 : c < o.1
       ·simp [h1,h2]
       ·omega
     have hx : ((if o.1 < c then (-1 : Int) else if c < o.1 then 1 else 0) == 0) = false:=by simpa only [Bool.not_eq_true] using this
     show Def (if ((if o.1 < c then (-1 : Int) else if c < o.1 then 1 else 0) == 0) = true then _ else _) _
     rw [hx]
     exact .ret rfl
   ·have hd : decide (((lowB (l.map (·.1)) c : Nat) : Int) < ((l.length : Nat) : Int)) = false:=by simpa using hlt
    have hno : ∀ x ∈ l,x.1 ≠ c:=fun x hx e=>lowB_end hk (by rw [hlen]; omega) (List.mem_map.2 ⟨x,hx,e⟩)
    simp only [hd,Bool.false_and,Bool.false_eq_true,if_false,Option.bind_some]
    exact ⟨_,rfl,.ret (getL_none hno).symm⟩
 unfold F209
 exact Def.eq (Def.bind h265)
theorem raiseL_rise {l : List D0} (h : FitL l) : (raiseL l).Pairwise (fun a b=>a.1 < b.1):=by
 unfold raiseL
 rw [List.pairwise_map]
 exact h.rise
def placeB (d o : List D0) : Bool:=d.all fun p=>decide (p.2.1 ≤ max 2 (getL (raiseL o) p.1))
theorem F146_eq (d o : List D0) (hd : d.length ≤ 1000) (ho : o.length ≤ 1000) (hf : FitL o) : F146 d o = some (placeB d o):=by
 refine Def.eq ?_
 unfold F146
 simp only [letJ_eq]
 refine Def.for1 (l:=d) (fun pre=>placeB pre o = true) (by omega) rfl (fun pre v post e hi=>?_) (fun hi=>.done (.ret hi.symm))
 rw [F210_eq o ho hf,Option.bind_some,F209_eq _ _ (by simp [raiseL]; omega) (raiseL_rise hf),Option.bind_some]
 have hm : (if decide ((2 : Int) > getL (raiseL o) v.1) = true then (2 : Int) else getL (raiseL o) v.1) = max 2 (getL (raiseL o) v.1):=by
  by_cases h : (2 : Int) > getL (raiseL o) v.1
  ·rw [if_pos (by simpa using h)]; omega
  ·rw [if_neg (by simpa using h)]; omega
 rw [hm]
 refine Def.ite (fun hc=>.done (.ret ?_)) (fun hc=>.turn ⟨rfl,?_⟩)
 ·have hc : v.2.1 > max 2 (getL (raiseL o) v.1):=by simpa using hc
  have : decide (v.2.1 ≤ max 2 (getL (raiseL o) v.1)) = false:=by simp only [decide_eq_false_iff_not]; omega
  have hp : placeB (pre ++ v :: post) o = false:=by rw [placeB,List.all_append,List.all_cons,this]; simp
  rw [e,hp]
 ·have hc : ¬ v.2.1 > max 2 (getL (raiseL o) v.1):=by simpa using hc
  unfold placeB at hi ⊢
  rw [List.all_append,hi,List.all_cons,List.all_nil,decide_eq_true (by omega)]
  rfl
end Go.Fn
namespace Go.Fn
set_option linter.unusedVariables false
open Go Go.Ab Go.Tx
theorem lowB_cons {k t : Int} {ks : List Int} : lowB (k :: ks) t = if k < t then lowB ks t + 1 else lowB ks t:=by
 unfold lowB
 rw [List.filter_cons]
 by_cases h : k < t <;> simp [h]
theorem split_low : ∀ {l : List D6},l.Pairwise (fun a b=>a.1 < b.1) → ∀ t : Int,l.take (lowB (keys l) t) = l.filter (fun o=>decide (o.1 < t)) ∧ l.drop (lowB (keys l) t) = l.filter (fun o=>!decide (o.1 < t))
 | [],_,t=>by simp
 | o :: l,hp,t=>by
  obtain ⟨h1,h2⟩:=List.pairwise_cons.1 hp
  obtain ⟨i1,i2⟩:=split_low h2 t
  by_cases h : o.1 < t
  ·have e : lowB (keys (o :: l)) t = lowB (keys l) t + 1:=by simp only [keys,List.map_cons,lowB_cons,h,if_true]
   rw [e]
   simp only [List.take_succ_cons,List.drop_succ_cons,List.filter_cons,h,decide_true,if_true,Bool.not_true,Bool.false_eq_true,if_false]
   exact ⟨by rw [i1],i2⟩
  ·have hall : ∀ x ∈ o :: l,¬ x.1 < t:=by
    intro x hx
    rcases List.mem_cons.1 hx with rfl | hx
    ·exact h
    ·have:=h1 x hx; omega
   have e : lowB (keys (o :: l)) t = 0:=by
    unfold lowB
    rw [List.filter_eq_nil_iff.2]
    ·rfl
    ·intro x hx
     obtain ⟨y,hy,rfl⟩:=List.mem_map.1 hx
     simpa using hall y hy
   rw [e]
   refine ⟨?_,?_⟩
   ·rw [List.take_zero,List.filter_eq_nil_iff.2]
    intro x hx; simpa using hall x hx
   ·rw [List.drop_zero,List.filter_eq_self.2]
    intro x hx; simpa using hall x hx
theorem split_lowI : ∀ {l : List Int},l.Pairwise (· < ·) → ∀ t : Int,l.take (lowB l t) = l.filter (fun o=>decide (o < t)) ∧ l.drop (lowB l t) = l.filter (fun o=>!decide (o < t))
 | [],_,t=>by simp
 | o :: l,hp,t=>by
  obtain ⟨h1,h2⟩:=List.pairwise_cons.1 hp
  obtain ⟨i1,i2⟩:=split_lowI h2 t
  by_cases h : o < t
  ·have e : lowB (o :: l) t = lowB l t + 1:=by simp only [lowB_cons,h,if_true]
   rw [e]
   simp only [List.take_succ_cons,List.drop_succ_cons,List.filter_cons,h,decide_true,if_true,Bool.not_true,Bool.false_eq_true,if_false]
   exact ⟨by rw [i1],i2⟩
  ·have hall : ∀ x ∈ o :: l,¬ x < t:=by
    intro x hx
    rcases List.mem_cons.1 hx with rfl | hx
    ·exact h
    ·have:=h1 x hx; omega
   have e : lowB (o :: l) t = 0:=by
    unfold lowB
    rw [List.filter_eq_nil_iff.2]
    ·rfl
    ·intro x hx; simpa using hall x hx
   rw [e]
   refine ⟨?_,?_⟩
   ·rw [List.take_zero,List.filter_eq_nil_iff.2]
    intro x hx; simpa using hall x hx
   ·rw [List.drop_zero,List.filter_eq_self.2]
    intro x hx; simpa using hall x hx
def insL (l : List Int) (t : Int) : List Int:=l.filter (fun o=>decide (o < t)) ++ t :: l.filter (fun o=>!decide (o < t))
def putL (l : List D6) (o : D6) : List D6:=l.filter (fun x=>decide (x.1 < o.1)) ++ o :: l.filter (fun x=>decide (o.1 < x.1))
theorem insL_eq {l : List Int} (hp : l.Pairwise (· < ·)) (t : Int) (hl : l.length ≤ 1000000) : insO 8 l (lowB l t : Int) [t] = some (insL l t):=by
 have h1:=lowB_le l t
 rw [insO,if_pos ⟨by omega,by omega,by simp only [List.length_cons,List.length_nil]; omega⟩]
 obtain ⟨e1,e2⟩:=split_lowI hp t
 simp only [Int.toNat_natCast,e1,e2,insL]
 simp
theorem putL_ins {l : List D6} (hp : l.Pairwise (fun a b=>a.1 < b.1)) (o : D6) (hl : l.length ≤ 1000000) (hno : ∀ x ∈ l,x.1 ≠ o.1) : insO 632 l (lowB (keys l) o.1 : Int) [o] = some (putL l o):=by
 have h1:=lowB_le (keys l) o.1
 have h2 : (keys l).length = l.length:=by simp [keys]
 rw [insO,if_pos ⟨by omega,by omega,by simp only [List.length_cons,List.length_nil]; omega⟩]
 obtain ⟨e1,e2⟩:=split_low hp o.1
 simp only [Int.toNat_natCast,e1,e2,putL]
 have : l.filter (fun x=>!decide (x.1 < o.1)) = l.filter (fun x=>decide (o.1 < x.1)):=by
  refine List.filter_congr fun x hx=>?_
  have:=hno x hx
  by_cases h : x.1 < o.1
  ·have h' : ¬ o.1 < x.1:=by omega
   simp [h,h']
  ·have h' : o.1 < x.1:=by omega
   simp [h,h']
 rw [this]; simp
theorem putL_set {l : List D6} (hp : l.Pairwise (fun a b=>a.1 < b.1)) (o v : D6) (hv : l[lowB (keys l) o.1]? = some v) (e : v.1 = o.1) : lsetO l (lowB (keys l) o.1 : Int) o = some (putL l o):=by
 obtain ⟨hlt,hve⟩:=List.getElem?_eq_some_iff.1 hv
 rw [lsetO,if_pos ⟨by omega,by simpa using hlt⟩]
 obtain ⟨e1,e2⟩:=split_low hp o.1
 simp only [Int.toNat_natCast,Option.some.injEq]
 rw [List.set_eq_take_append_cons_drop,if_pos hlt,e1,putL]
 have hd : l.drop (lowB (keys l) o.1) = v :: l.drop (lowB (keys l) o.1 + 1):=by rw [← hve]; exact List.drop_eq_getElem_cons hlt
 rw [hd] at e2
 have e3 : l.drop (lowB (keys l) o.1 + 1) = l.filter (fun x=>decide (o.1 < x.1)):=by
  have hp2 : (v :: l.drop (lowB (keys l) o.1 + 1)).Pairwise (fun a b=>a.1 < b.1):=by rw [← hd]; exact hp.sublist (List.drop_sublist _ _)
  obtain ⟨q1,q2⟩:=List.pairwise_cons.1 hp2
  have h1 : (v :: l.drop (lowB (keys l) o.1 + 1)).filter (fun x=>decide (o.1 < x.1)) = l.drop (lowB (keys l) o.1 + 1):=by
   rw [List.filter_cons,if_neg (by simp; omega),List.filter_eq_self.2]
   intro x hx
   have:=q1 x hx
   simp; omega
  rw [← h1,e2,List.filter_filter]
  refine List.filter_congr fun x hx=>?_
  by_cases h : o.1 < x.1
  ·have h' : ¬ x.1 < o.1:=by omega
   simp [h,h']
  ·simp [h]
 rw [e3]
theorem mem_putL {l : List D6} {o x : D6} : x ∈ putL l o ↔ x = o ∨ x ∈ l ∧ x.1 ≠ o.1:=by
 simp only [putL,List.mem_append,List.mem_cons,List.mem_filter,decide_eq_true_eq]
 constructor
 ·rintro (⟨h1,h2⟩ | h | ⟨h1,h2⟩)
  ·exact .inr ⟨h1,by omega⟩
  ·exact .inl h
  ·exact .inr ⟨h1,by omega⟩
 ·rintro (h | ⟨h1,h2⟩)
  ·exact .inr (.inl h)
  ·by_cases h : x.1 < o.1
   ·exact .inl ⟨h1,h⟩
   ·exact .inr (.inr ⟨h1,by omega⟩)
theorem putL_rise {l : List D6} (hp : l.Pairwise (fun a b=>a.1 < b.1)) (o : D6) : (putL l o).Pairwise (fun a b=>a.1 < b.1):=by
 unfold putL
 rw [List.pairwise_append,List.pairwise_cons]
 refine ⟨hp.filter _,⟨fun x hx=>?_,hp.filter _⟩,fun x hx y hy=>?_⟩
 ·simp only [List.mem_filter,decide_eq_true_eq] at hx; exact hx.2
 ·simp only [List.mem_filter,decide_eq_true_eq] at hx
  rcases List.mem_cons.1 hy with rfl | hy
  ·exact hx.2
  ·simp only [List.mem_filter,decide_eq_true_eq] at hy; omega
theorem insL_len (l : List Int) (t : Int) : (insL l t).length ≤ l.length + 1:=by
 have h : ∀ l : List Int,(l.filter (fun o=>decide (o < t))).length + (l.filter (fun o=>!decide (o < t))).length = l.length:=by
  intro l
  induction l with
  | nil=>rfl
  | cons a l ih=>by_cases h : a < t <;> simp [List.filter_cons,h] <;> omega
 have:=h l
 simp only [insL,List.length_append,List.length_cons]; omega
theorem putL_len (l : List D6) (o : D6) : (putL l o).length ≤ l.length + 1:=by
 have h : ∀ l : List D6,(l.filter (fun x=>decide (x.1 < o.1))).length + (l.filter (fun x=>decide (o.1 < x.1))).length ≤ l.length:=by
  intro l
  induction l with
  | nil=>exact Nat.le_refl _
  | cons a l ih =>
   by_cases h : a.1 < o.1
   ·have h' : ¬ o.1 < a.1:=by omega
    simp [List.filter_cons,h,h']; omega
   ·by_cases h' : o.1 < a.1 <;> simp [List.filter_cons,h,h'] <;> omega
 have:=h l
 simp only [putL,List.length_append,List.length_cons]; omega
abbrev Ris (w : D7) : Prop:=(objs w).Pairwise (fun a b=>a.1 < b.1)
def putW (w : D7) (o : D6) : D7:=if (putL (objs w) o).length ≤ 1024 then sett7_3_1 w (putL (objs w) o) else w
theorem F74_eq (w : D7) (o : D6) (hl : (objs w).length ≤ 100000) (hp : Ris w) : F74 w o = some (putW w o):=by
 refine Def.eq ?_
 unfold F74 F132
 rw [Option.bind_some]
 have e0 : ((sett9_1_1 (sett9_0_1 (Ty.zero t9 : D9) w.2.2.2.1) ()) : D8).1 = objs w:=rfl
 simp only [letJ_eq,e0]
 have hk:=keys_rise hp
 have hlen : (keys (objs w)).length = (objs w).length:=by simp [keys]
 have hge : ∀ (k : Nat) (v : D6),(objs w)[k]? = some v → (keys (objs w))[k]? = some v.1:=fun k v h=>by simp [keys,h]
 have fin : ∀ l,l = putL (objs w) o → Def (if decide (((List.length l : Nat) : Int) ≤ (1024 : Int)) = true then some (sett7_3_1 w l) else some w) fun r=>r = putW w o:=by
  rintro l rfl
  unfold putW
  refine Def.ite (fun hc=>.ret ?_) (fun hc=>.ret ?_)
  ·rw [if_pos (by simp only [decide_eq_true_eq] at hc; omega)]
  ·rw [if_neg (by simp only [decide_eq_true_eq] at hc; omega)]
 have hc0 : ∀ {Q : List D6 → Prop},Q (objs w) → Def (appO 632 [] (objs w)) Q:=fun h=>Def.app (by simp only [List.length_nil]; omega) (by simpa using h)
 rw [F145,Option.bind_some]
 refine Def.search (n:=(objs w).length) (m:=lowB (keys (objs w)) o.1) (by rw [← hlen]; exact lowB_le _ _) (by omega) (fun i j hij hj h1 h2=>?_) (.done ?_)
 ·simp only
  rw [shr_half (by omega)]
  have ew : IntKind.wrap .i64 (((i + j) / 2 : Nat) : Int) = (((i + j) / 2 : Nat) : Int):=wrap_i64 (by omega) (by omega)
  have ew2 : IntKind.wrap .i64 ((((i + j) / 2 : Nat) : Int) + 1) = (((i + j) / 2 : Nat) : Int) + 1:=wrap_i64 (by omega) (by omega)
  rw [Option.bind_some]
  simp only [ew,ew2]
  refine Def.bind (Def.idx (by omega) (by show _ < (((objs w).length : Nat) : Int); omega) (fun v hv _=>?_))
  simp only [Int.toNat_natCast] at hv
  have hlow:=lowB_lt hk o.1 _ v.1 (hge _ _ hv)
  rw [F145,Option.bind_some,F203_eq,Option.bind_some]
  refine Def.ite (fun hc=>.turn (.inl ⟨rfl,?_⟩)) (fun hc=>.turn (.inr ⟨rfl,?_⟩))
  ·refine hlow.1 ?_
   by_cases h : v.1 < o.1
   ·exact h
   ·by_cases h' : o.1 < v.1 <;> simp [h,h'] at hc
  ·have : ¬ v.1 < o.1:=fun h=>by simp [h] at hc
   exact Nat.le_of_not_lt fun h=>this (hlow.2 h)
 ·by_cases hlt : lowB (keys (objs w)) o.1 < (objs w).length
  ·have hg:=List.getElem?_eq_getElem hlt
   have hm:=lowB_mem hk (hge _ _ hg)
   have h1 : idxO (objs w) (lowB (keys (objs w)) o.1 : Int) = some (objs w)[lowB (keys (objs w)) o.1]:=by rw [idxO_nat,hg]
   have hd : decide (((lowB (keys (objs w)) o.1 : Nat) : Int) < (((objs w).length : Nat) : Int)) = true:=by simpa using hlt
   generalize ho : (objs w)[lowB (keys (objs w)) o.1] = v at h1 hm hg
   simp only [hd,h1,Bool.and_true,if_true,Option.bind_some,F145,F203_eq]
   refine Def.bind (hc0 ?_)
   by_cases he : v.1 = o.1
   ·have hx : ((if v.1 < o.1 then (-1 : Int) else if o.1 < v.1 then 1 else 0) == 0) = true:=by rw [he]; simp
    rw [hx]
    simp only [if_true,h1,Option.bind_some]
    rw [putL_set hp o v hg he,Option.bind_some]
    exact fin _ rfl
   ·have hno : ∀ x ∈ objs w,x.1 ≠ o.1:=fun x hx e=>he (hm.1 (List.mem_map.2 ⟨x,hx,e⟩))
    have hx : ((if v.1 < o.1 then (-1 : Int) else if o.1 < v.1 then 1 else 0) == 0) = false:=by
     by_cases h1 : v.1 < o.1
     ·simp [h1]
     ·by_cases h2 : o.1 < v.1
      ·simp [h1,h2]
      ·omega
    rw [hx]
    simp only [Bool.false_eq_true,if_false,Option.bind_some]
    rw [putL_ins hp o (by omega) hno,Option.bind_some]
    exact fin _ rfl
  ·have hd : decide (((lowB (keys (objs w)) o.1 : Nat) : Int) < (((objs w).length : Nat) : Int)) = false:=by simpa using hlt
   have hno : ∀ x ∈ objs w,x.1 ≠ o.1:=fun x hx e=>lowB_end hk (by rw [hlen]; omega) (List.mem_map.2 ⟨x,hx,e⟩)
   simp only [hd,Bool.false_and,Bool.false_eq_true,if_false,Option.bind_some]
   refine Def.bind (hc0 ?_)
   rw [putL_ins hp o (by omega) hno,Option.bind_some]
   exact fin _ rfl
structure Nice (w : D7) : Prop where
 few : (objs w).length ≤ 1000
 ids : Ris w
 lns : ∀ o ∈ objs w,(lnk o).length ≤ 1000
 lnk : ∀ o ∈ objs w,(Fn.lnk o).Pairwise (· < ·)
 dat : ∀ o ∈ objs w,(dat o).length ≤ 1000000
def roomF (l : List D6) (d : D6) : Int:=IntKind.wrap .i64 (quo d - usesF l (pages d) (lnk d))
def laidF (l : List D6) (d o : D6) : D6 × Int :=
 if placeB d.2.2.1 o.2.2.1 = false then (d,2)
 else if 64 ≤ (lnk d).length then (d,6)
 else if quo o > roomF l d ∨ 0 < (lnk o).length then (d,5)
 else (sett6_5_1 d (insL (lnk d) o.1),0)
structure NiceO (o : D6) : Prop where
 lns : (lnk o).length ≤ 1000
 lnk : (Fn.lnk o).Pairwise (· < ·)
 dat : (dat o).length ≤ 1000000
 lab : o.2.2.1.length ≤ 1000
 fit : FitL o.2.2.1
theorem F118_eq (w : D7) (d o : D6) (hw : Nice w) (hd : NiceO d) (ho : NiceO o) : F118 (sett11_0_4 (Ty.zero t11 : D11) w) d o = some (laidF (objs w) d o):=by
 refine Def.eq ?_
 unfold F118 laidF
 rw [F146_eq _ _ hd.lab ho.lab ho.fit,Option.bind_some]
 simp only [letJ_eq]
 cases hp : placeB d.2.2.1 o.2.2.1 with
 | false=>exact .ret rfl
 | true =>
  simp only [Bool.not_true,Bool.false_eq_true,if_false,Bool.true_eq_false]
  by_cases h64 : 64 ≤ (lnk d).length
  ·have h1 : ((lnk d).length : Int) ≥ 64:=by omega
   rw [if_pos h64,if_pos (by simpa using h1)]
   exact .ret rfl
  ·have h1 : ¬ ((lnk d).length : Int) ≥ 64:=by omega
   rw [if_neg h64,if_neg (by simpa using h1)]
   have e37:=F37_eq w d (by have:=hw.few; omega) hw.ids hd.dat hd.lns
   rw [e37,Option.bind_some]
   by_cases hr : quo o > roomF (objs w) d ∨ 0 < (lnk o).length
   ·rw [if_pos hr,if_pos]
    ·exact .ret rfl
    ·rcases hr with h | h
     ·rw [if_pos]
      unfold roomF at h
      simpa using h
     ·by_cases h' : decide (o.2.2.2.1 > IntKind.wrap .i64 (quo d - usesF (objs w) (pages d) (lnk d))) = true
      ·rw [if_pos h']
      ·rw [if_neg h']; simpa using h
   ·rw [if_neg hr,if_neg]
    ·have hlow:=insL_eq hd.lnk o.1 (by have:=hd.lns; omega)
     rw [F70_eq (lnk d) o.1 (by have:=hd.lns; omega) hd.lnk,Option.bind_some,Option.bind_some]
     refine Def.bind (Def.app (by have:=hd.lns; simp only [List.length_nil]; simp only [lnk] at this; omega) ?_)
     simp only [List.nil_append]
     rw [hlow,Option.bind_some]
     exact .ret rfl
    ·simp only [not_or,Int.not_lt] at hr
     unfold roomF at hr
     rw [if_neg (by simpa using hr.1)]
     simpa using hr.2
end Go.Fn
namespace Go.Fn
set_option linter.unusedVariables false
open Go Go.Ab Go.Tx
theorem zeroO_nice : NiceO (Ty.zero t6 : D6):=⟨by decide,List.Pairwise.nil,by decide,by decide,⟨List.Pairwise.nil,by intro p hp; cases hp⟩⟩
theorem findO_all {l : List D6} {Q : D6 → Prop} (h : ∀ o ∈ l,Q o) (h0 : Q (Ty.zero t6)) (id : Int) : Q (findO l id).1:=by
 cases hf : (findO l id).2 with
 | true=>exact h _ (findO_of hf).1
 | false =>
  have : (findO l id).1 = Ty.zero t6:=by
   unfold findO at hf ⊢
   cases hx : l.find? (fun o=>o.1 == id) with
   | none=>rfl
   | some o=>rw [hx] at hf; cases hf
  rw [this]; exact h0
theorem putW_ris {w : D7} (o : D6) (h : Ris w) : Ris (putW w o):=by
 unfold putW
 split
 ·exact putL_rise h o
 ·exact h
theorem putW_len (w : D7) (o : D6) : (objs (putW w o)).length ≤ (objs w).length + 1:=by
 unfold putW
 split
 ·exact putL_len _ _
 ·omega
def attachF (w : D7) (d : Int) (o : D6) : D7 × Int :=
 if (findO (objs w) d).2 = false then (w,1)
 else if (findO (objs w) d).1.2.1 ≠ 2 then (w,3)
 else if (findO (objs w) o.1).2 = true then (w,12)
 else if (laidF (objs w) (findO (objs w) d).1 o).2 ≠ 0 then (w,(laidF (objs w) (findO (objs w) d).1 o).2)
 else (putW (putW w o) (laidF (objs w) (findO (objs w) d).1 o).1,0)
theorem F51_eq (w : D7) (d : Int) (o : D6) (hw : Nice w) (hs : ∀ x ∈ objs w,NiceO x) (ho : NiceO o) : F51 w d o = some (attachF w d o):=by
 have hf:=hw.few
 refine Def.eq ?_
 unfold F51 attachF
 rw [F69_eq w d (by omega) hw.ids,Option.bind_some]
 simp only [letJ_eq]
 cases h1 : (findO (objs w) d).2 with
 | false=>exact .ret rfl
 | true =>
  simp only [Bool.not_true,Bool.false_eq_true,Bool.true_eq_false,if_false]
  by_cases h2 : (findO (objs w) d).1.2.1 = 2
  ·rw [if_neg (by simpa using h2),if_neg (by simpa using h2),F69_eq w o.1 (by omega) hw.ids,Option.bind_some]
   cases h3 : (findO (objs w) o.1).2 with
   | true=>exact .ret rfl
   | false =>
    simp only [Bool.false_eq_true,if_false]
    rw [F118_eq w _ o hw (findO_all hs zeroO_nice d) ho,Option.bind_some]
    by_cases h4 : (laidF (objs w) (findO (objs w) d).1 o).2 = 0
    ·rw [if_neg (by simpa using h4),if_neg (by simpa using h4),F74_eq w o (by omega) hw.ids,Option.bind_some,F74_eq _ _ (by have:=putW_len w o; omega) (putW_ris o hw.ids),Option.bind_some]
     exact .ret rfl
    ·rw [if_pos (by simpa using h4),if_pos h4]
     exact .ret rfl
  ·rw [if_pos (by simpa using h2),if_pos h2]
   exact .ret rfl
def wholeK (k : Int) : Bool:=k == 2 || k == 4
def linkF (w : D7) (d id : Int) : D7 × Int :=
 if (findO (objs w) d).2 = false ∨ (findO (objs w) id).2 = false then (w,1)
 else if (findO (objs w) d).1.2.1 ≠ 2 ∨ wholeK (findO (objs w) id).1.2.1 = true then (w,3)
 else if (findO (objs w) id).1.2.2.2.2.1 = false then (w,8)
 else if id ∈ lnk (findO (objs w) d).1 then (w,12)
 else if (laidF (objs w) (findO (objs w) d).1 (findO (objs w) id).1).2 ≠ 0 then (w,(laidF (objs w) (findO (objs w) d).1 (findO (objs w) id).1).2)
 else (putW w (laidF (objs w) (findO (objs w) d).1 (findO (objs w) id).1).1,0)
theorem F53_eq (w : D7) (d id : Int) (hw : Nice w) (hs : ∀ x ∈ objs w,NiceO x) : F53 w d id = some (linkF w d id):=by
 have hf:=hw.few
 have hd:=findO_all hs zeroO_nice d
 have hi:=findO_all hs zeroO_nice id
 refine Def.eq ?_
 unfold F53 linkF
 rw [F69_eq w d (by omega) hw.ids,Option.bind_some,F69_eq w id (by omega) hw.ids,Option.bind_some,F70_eq (lnk (findO (objs w) d).1) id (by have:=hd.lns; omega) hd.lnk,Option.bind_some]
 simp only [letJ_eq]
 generalize findO (objs w) d = c at hd
 generalize findO (objs w) id = o at hi
 by_cases h1 : c.2 = false ∨ o.2 = false
 ·rw [if_pos h1,if_pos]
  ·exact .ret rfl
  ·rcases h1 with h | h <;> simp [h]
 ·rw [if_neg h1]
  simp only [not_or,Bool.not_eq_false] at h1
  rw [if_neg (by simp [h1.1,h1.2])]
  refine Def.bindI (fun b=>b = wholeK o.1.2.1) (fun _=>?_) (fun v6 q6 n6=>?_)
  ·unfold F119 wholeK
   refine .ret ?_
   cases h : (o.1.2.1 == 2) <;> simp
  by_cases h2 : c.1.2.1 ≠ 2 ∨ wholeK o.1.2.1 = true
  ·rw [if_pos h2,if_pos]
   ·exact .ret rfl
   ·by_cases h : c.1.2.1 = 2
    ·have h' : wholeK o.1.2.1 = true:=by
      rcases h2 with h2 | h2
      ·exact absurd h h2
      ·exact h2
     rw [q6 (by simp [h]),h']
     simp
    ·simp [h]
  ·rw [if_neg h2]
   simp only [not_or,Decidable.not_not] at h2
   rw [if_neg (by rw [q6 (by simp [h2.1])]; simp [h2.1,h2.2])]
   cases h3 : o.1.2.2.2.2.1 with
   | false=>exact .ret rfl
   | true =>
    simp only [Bool.not_true,Bool.false_eq_true,Bool.true_eq_false,if_false]
    by_cases h4 : id ∈ lnk c.1
    ·rw [if_pos h4,if_pos (by simpa using h4)]
     exact .ret rfl
    ·rw [if_neg h4,if_neg (by simpa using h4),F118_eq w _ _ hw hd hi,Option.bind_some]
     by_cases h5 : (laidF (objs w) c.1 o.1).2 = 0
     ·rw [if_neg (by simpa using h5),if_neg (by simpa using h5),F74_eq w _ (by omega) hw.ids,Option.bind_some]
      exact .ret rfl
     ·rw [if_pos (by simpa using h5),if_pos h5]
      exact .ret rfl
def moveF (w : D7) (d id n : Int) : D7 × Int :=
 if (findO (objs w) d).2 = false ∨ (findO (objs w) id).2 = false ∨ id ∉ lnk (findO (objs w) d).1 then (w,1)
 else if (findO (objs w) id).1.2.2.2.2.1 = true then (w,8)
 else if n < -4096 ∨ 4096 < n then (w,4)
 else if n > roomF (objs w) (findO (objs w) d).1 ∨ IntKind.wrap .i64 (quo (findO (objs w) id).1 + n) < max 1 (usesF (objs w) (pages (findO (objs w) id).1) (lnk (findO (objs w) id).1)) ∨ IntKind.wrap .i64 (quo (findO (objs w) id).1 + n) > 4096 then (w,5)
 else (putW w (sett6_3_1 (findO (objs w) id).1 (IntKind.wrap .i64 (quo (findO (objs w) id).1 + n))),0)
theorem F54_eq (w : D7) (d id n : Int) (hw : Nice w) (hs : ∀ x ∈ objs w,NiceO x) : F54 w d id n = some (moveF w d id n):=by
 have hf:=hw.few
 have hd:=findO_all hs zeroO_nice d
 have hi:=findO_all hs zeroO_nice id
 refine Def.eq ?_
 unfold F54 moveF
 rw [F69_eq w d (by omega) hw.ids,Option.bind_some,F69_eq w id (by omega) hw.ids,Option.bind_some,F70_eq (lnk (findO (objs w) d).1) id (by have:=hd.lns; omega) hd.lnk,Option.bind_some]
 simp only [letJ_eq,letV_eq]
 generalize findO (objs w) d = c at hd
 generalize findO (objs w) id = o at hi
 by_cases h1 : c.2 = false ∨ o.2 = false ∨ id ∉ lnk c.1
 ·rw [if_pos h1,if_pos]
  ·exact .ret rfl
  ·rcases h1 with h | h | h
   ·simp [h]
   ·simp [h]
   ·have h' : decide (id ∈ lnk c.1) = false:=by simpa using h
    rw [h']; simp
 ·rw [if_neg h1]
  simp only [not_or,Bool.not_eq_false,Decidable.not_not] at h1
  have h' : decide (id ∈ lnk c.1) = true:=by simpa using h1.2.2
  rw [if_neg (by rw [h']; simp [h1.1,h1.2.1])]
  cases h3 : o.1.2.2.2.2.1 with
  | true=>exact .ret rfl
  | false =>
   simp only [Bool.false_eq_true,if_false]
   by_cases h4 : n < -4096 ∨ 4096 < n
   ·rw [if_pos h4,if_pos]
    ·exact .ret rfl
    ·rcases h4 with h | h
     ·simp [h]
     ·by_cases h6 : n < -4096 <;> simp [h,h6]
   ·rw [if_neg h4]
    simp only [not_or,Int.not_lt] at h4
    rw [if_neg (by simp; omega)]
    rw [F37_eq w c.1 (by omega) hw.ids hd.dat hd.lns,Option.bind_some]
    refine Def.bindI (fun b=>b = usesF (objs w) (pages o.1) (lnk o.1)) (fun _=>Def.of (F35_eq w o.1 (by omega) hw.ids hi.dat hi.lns) rfl) (fun v8 q8 _=>?_)
    have hm : ∀ x : Int,(if decide (x > 1) = true then x else 1) = max 1 x:=fun x=>by
     by_cases h : x > 1
     ·rw [if_pos (by simpa using h)]; omega
     ·rw [if_neg (by simpa using h)]; omega
    rw [hm]
    unfold roomF
    by_cases h7 : n > IntKind.wrap .i64 (quo c.1 - usesF (objs w) (pages c.1) (lnk c.1))
    ·rw [if_pos (by simp [h7])]
     exact .ret (by rw [if_pos (Or.inl h7)])
    ·have q:=q8 (by simp [h7])
     subst q
     have d7 : decide (n > IntKind.wrap .i64 (quo c.1 - usesF (objs w) (pages c.1) (lnk c.1))) = false:=by simpa using h7
     rw [d7]
     simp only [Bool.false_eq_true,if_false]
     by_cases h8 : IntKind.wrap .i64 (quo o.1 + n) < max 1 (usesF (objs w) (pages o.1) (lnk o.1))
     ·rw [if_pos (by rw [decide_eq_true h8]; simp)]
      exact .ret (by rw [if_pos (Or.inr (Or.inl h8))])
     ·rw [decide_eq_false h8]
      simp only [Bool.false_eq_true,if_false]
      by_cases h9 : IntKind.wrap .i64 (quo o.1 + n) > 4096
      ·rw [if_pos (by simpa using h9)]
       exact .ret (by rw [if_pos (Or.inr (Or.inr h9))])
      ·rw [if_neg (by simpa using h9),F74_eq w _ (by omega) hw.ids,Option.bind_some]
       refine .ret ?_
       rw [if_neg]
       rintro (h | h | h)
       ·exact h7 h
       ·exact h8 h
       ·exact h9 h
end Go.Fn
namespace Go.Fn
set_option linter.unusedVariables false
open Go Go.Ab Go.Tx
theorem eqT_refl : ∀ (t : Ty) (e : t.den → t.den → Bool),eqT t = some e → ∀ x,e x x = true:=by
 intro t
 induction t with
 | int k=>intro e h x; cases h; simp
 | bool=>intro e h x; cases h; simp
 | unit=>intro e h x; cases h; rfl
 | prod a b iha ihb =>
  intro e h x
  simp only [eqT] at h
  cases ha : eqT a with
  | none=>rw [ha] at h; cases h
  | some f =>
   cases hb : eqT b with
   | none=>rw [ha,hb] at h; cases h
   | some g=>rw [ha,hb] at h; cases h; simp [iha f ha x.1,ihb g hb x.2]
 | st a ih =>
  intro e h x
  simp only [eqT] at h
  cases ha : eqT a with
  | none=>rw [ha] at h; cases h
  | some f=>rw [ha] at h; cases h; exact ih f ha x
 | arr n t ih =>
  intro e h x
  simp only [eqT] at h
  cases ha : eqT t with
  | none=>rw [ha] at h; cases h
  | some f=>rw [ha] at h; cases h; simp [ih f ha]
 | _=>intro e h; cases h
theorem eqK_refl {t : Ty} (h : (eqT t).isSome = true) (x : t.den) : eqK t x x = true:=by
 unfold eqK
 cases he : eqT t with
 | none=>rw [he] at h; cases h
 | some e=>exact eqT_refl t e he x
theorem same_refl {α : Type} {a : List α} {c : Int → α → α → Bool} (hl : a.length ≤ big) (hc : ∀ s v,c s v v = false) : (if (((List.length a : Nat) : Int) != ((List.length a : Nat) : Int)) = true then some false else
  whileO (σ:=Int) (ρ:=Bool) (fun s=>if (decide (s < ((List.length a : Nat) : Int))) = true then Option.bind (idxO a s) fun v=>Option.bind (idxO a s) fun u=>if c s v u = true then done (some false) else turn (IntKind.wrap .i64 (s + (1 : Int))) else done (some true)) (0 : Int)) = some true:=by
 refine Def.eq ?_
 refine Def.ite (fun h=>by simp at h) (fun _=>?_)
 refine Def.for1 (l:=a) (fun _=>True) hl trivial (fun pre v post e _=>?_) (fun _=>.done (.ret rfl))
 refine Def.bind' (Def.at e) (fun u hu=>?_)
 subst hu
 rw [if_neg (by rw [hc]; simp)]
 exact .turn ⟨rfl,trivial⟩
theorem F128_refl (a : List D0) (hl : a.length ≤ big) : F128 a a = some true:=by
 unfold F128
 simp only [letJ_eq]
 exact same_refl (c:=fun _ v u=>!(eqK (.prod (.int .u64) (.prod (.int .i64) .unit)) v u)) hl fun _ v=>by rw [eqK_refl (by rfl)]; rfl
theorem F139_refl (a : List Int) (hl : a.length ≤ big) : F139 a a = some true:=by
 unfold F139
 simp only [letJ_eq]
 exact same_refl (c:=fun _ v u=>v != u) hl fun _ v=>by simp
theorem F140_refl (a : List D1) (hl : a.length ≤ big) : F140 a a = some true:=by
 unfold F140
 simp only [letJ_eq]
 exact same_refl (c:=fun _ v u=>!(eqK (.prod (.int .i64) (.prod (.int .i64) (.prod (.int .u64) (.prod (.int .u64) (.prod (.int .i64) (.prod .bool .unit)))))) v u)) hl fun _ v=>by rw [eqK_refl (by rfl)]; rfl
theorem F141_refl (b : D4) (h1 : b.2.2.1.length ≤ big) (h2 : b.2.2.2.2.2.2.2.2.1.length ≤ big) (h3 : ∀ i,(b.2.2.2.2.2.2.2.2.2.2.1 i).length ≤ big) : F141 b b = some true:=by
 refine Def.eq ?_
 unfold F141
 simp only [letJ_eq,letV_eq]
 refine Def.times (n:=4) (by omega) (fun i h0 h4=>?_) ?_
 ·refine Def.bind (guard4 h0 h4 ?_)
  have hi : 0 ≤ i ∧ i.toNat < 4:=⟨h0,by omega⟩
  have e : ∀ f : Fin 4 → List D0,aidxO f i = some (f ⟨i.toNat,hi.2⟩):=fun f=>by rw [aidxO,dif_pos hi]
  rw [e,Option.bind_some]
  refine Def.bind (guard4 h0 h4 ?_)
  rw [Option.bind_some,F128_refl _ (h3 _),Option.bind_some]
  exact .turn rfl
 ·rw [F128_refl _ h1,F139_refl _ h2]
  have k1:=eqK_refl (t:=.arr 16 (.int .u64)) (by rfl) b.1
  have k2:=eqK_refl (t:=.prod (.int .u64) (.prod (.int .u64) .unit)) (by rfl) b.2.2.2.1
  have k3:=eqK_refl (t:=.prod t2 (.prod (.int .u64) (.prod (.int .u64) (.prod .bool .unit)))) (by rfl) b.2.2.2.2.2.2.2.1
  have k4:=eqK_refl (t:=.prod (.int .u64) (.prod (.int .u64) .unit)) (by rfl) b.2.2.2.2.2.2.2.2.2.1
  simp only [k1,k2,k3,k4,beq_self_eq_true,if_true,Bool.and_self,Option.bind_some]
  exact .done (.ret rfl)
theorem F142_refl (b : D5) (h1 : b.1.length ≤ big) (h2 : b.2.1.length ≤ big) : F142 b b = some true:=by
 unfold F142
 have k2:=eqK_refl (t:=.prod (.int .u64) (.prod (.int .u64) .unit)) (by rfl) b.2.2.1
 simp only [letV_eq,F128_refl _ h1,F128_refl _ h2,k2,beq_self_eq_true,if_true,Bool.and_self,Option.bind_some]
theorem F83_refl (b : D6) (h : OkO b) : F83 b b = some true:=by
 unfold F83
 have a1:=F128_refl _ h.lab
 have a2:=F139_refl _ h.lnk
 have a3:=F139_refl _ h.dat
 have a4:=F140_refl _ h.mps
 have a5:=F141_refl _ h.clr h.alr h.lbs
 have a6:=F142_refl _ h.gra h.gcl
 have a7:=F139_refl _ h.inn
 have a8:=F139_refl _ h.out
 simp only [lnk,dat,thr,gat] at a2 a3 a5 a6
 simp only [letV_eq,a1,a2,a3,a4,a5,a6,a7,a8,bne_self_eq_false,beq_self_eq_true,if_true,if_false,Bool.false_eq_true,Bool.not_false,Bool.not_true,Bool.and_self,Option.bind_some]
theorem F26_refl (w : D7) (hl : (objs w).length ≤ big) (h : ∀ o ∈ objs w,OkO o) : F26 w w = some true:=by
 refine Def.eq ?_
 unfold F26
 simp only [letV_eq,letJ_eq,bne_self_eq_false,if_false,Bool.false_eq_true]
 refine Def.for1 (l:=objs w) (fun _=>True) hl trivial (fun pre v post e _=>?_) (fun _=>.done (.ret rfl))
 refine Def.bind' (Def.at e) (fun u hu=>?_)
 subst hu
 rw [F83_refl u (h u (by rw [e]; simp)),Option.bind_some]
 exact .turn ⟨rfl,trivial⟩
def lv (n : Int) : Int:=if n < 0 ∨ 5 < n then 2 else n
theorem F219_eq (n : Int) : F219 n = some (lv n):=by
 unfold F219 lv
 by_cases h1 : n < 0
 ·simp [h1]
 ·by_cases h2 : 5 < n <;> simp [h1,h2]
theorem lv_in {n : Int} (h0 : 0 ≤ n) (h5 : n ≤ 5) : lv n = n:=by
 unfold lv
 rw [if_neg (by omega)]
theorem F217_eq (l : List D0) (hl : l.length ≤ 1000) (hf : FitL l) : F217 l = some (raiseL l):=by
 refine Def.eq ?_
 unfold F217
 simp only [letJ_eq]
 refine Def.for2 (l:=l) (fun pre a=>a = raiseL pre) (by omega) rfl (fun pre v post a e hi=>?_) (fun a hi=>.done (.ret hi))
 have hlt : pre.length < l.length:=by rw [e]; simp
 obtain ⟨h0,h5,_⟩:=hf.lev v (by rw [e]; simp)
 subst hi
 refine Def.bind' (Def.at e) (fun u hu=>?_)
 subst hu
 have h271 : F271 u.2.1 = some (raiseN u.2.1):=by
  unfold F271 raiseN
  rw [F219_eq,lv_in h0 h5]
  by_cases h : u.2.1 = 0 <;> simp [h]
 rw [h271,Option.bind_some,Option.bind_some]
 refine Def.bind (Def.app (by simp only [raiseL,List.length_cons,List.length_nil,List.length_map]; omega) (.turn ⟨rfl,?_⟩))
 simp [raiseL]
theorem F159_eq (l : List D0) (c : Int) (hl : l.length ≤ big) : F159 l c = some (getL l c):=by
 refine Def.eq ?_
 unfold F159
 simp only [letJ_eq]
 refine Def.for1 (l:=l) (fun pre=>∀ p ∈ pre,p.1 ≠ c) hl (by simp) (fun pre v post e hi=>?_) (fun hi=>.done (.ret (getL_none hi).symm))
 have hn : pre.find? (fun p=>p.1 == c) = none:=List.find?_eq_none.2 fun p hp=>by simpa using hi p hp
 refine Def.ite (fun hc=>?_) (fun hc=>.turn ⟨rfl,?_⟩)
 ·refine Def.bind' (Def.at e) (fun u hu=>.done (.ret ?_))
  subst hu
  unfold getL
  rw [e,List.find?_append,hn,List.find?_cons,hc]
  rfl
 ·intro p hp
  rcases List.mem_append.1 hp with hp | hp
  ·exact hi p hp
  ·simp at hp; subst hp; simpa using hc
theorem F158_eq (a b : Int) : F158 a b = some (decide (lv a ≤ lv b)):=by
 unfold F158
 rw [F219_eq,F219_eq,Option.bind_some,Option.bind_some]
def leqB (a b : List D0) : Bool:=(a.all fun p=>decide (lv p.2.1 ≤ lv (getL b p.1))) && b.all fun q=>decide (lv (getL a q.1) ≤ lv q.2.1)
theorem F100_eq (a b : List D0) (ha : a.length ≤ big) (hb : b.length ≤ big) : F100 a b = some (leqB a b):=by
 refine Def.eq ?_
 unfold F100
 simp only [letJ_eq]
 refine Def.for1 (l:=a) (fun pre=>(pre.all fun p=>decide (lv p.2.1 ≤ lv (getL b p.1))) = true) ha rfl (fun pre v post e hi=>?_) (fun hi=>.done ?_)
 ·refine Def.bind' (Def.at e) (fun u hu=>?_)
  subst hu
  rw [F159_eq _ _ hb,Option.bind_some,F158_eq,Option.bind_some]
  refine Def.ite (fun hc=>.done (.ret ?_)) (fun hc=>.turn ⟨rfl,?_⟩)
  ·have hc : decide (lv u.2.1 ≤ lv (getL b u.1)) = false:=by simpa using hc
   unfold leqB
   have : (a.all fun p=>decide (lv p.2.1 ≤ lv (getL b p.1))) = false:=by rw [e,List.all_append,List.all_cons,hc]; simp
   rw [this]; rfl
  ·rw [List.all_append,hi]
   simpa using hc
 ·refine Def.for1 (l:=b) (fun pre=>(pre.all fun q=>decide (lv (getL a q.1) ≤ lv q.2.1)) = true) hb rfl (fun pre v post e hi2=>?_) (fun hi2=>.done (.ret ?_))
  ·rw [F159_eq _ _ ha,Option.bind_some]
   refine Def.bind' (Def.at e) (fun u hu=>?_)
   subst hu
   rw [F158_eq,Option.bind_some]
   refine Def.ite (fun hc=>.done (.ret ?_)) (fun hc=>.turn ⟨rfl,?_⟩)
   ·have hc : decide (lv (getL a u.1) ≤ lv u.2.1) = false:=by simpa using hc
    unfold leqB
    have : (b.all fun q=>decide (lv (getL a q.1) ≤ lv q.2.1)) = false:=by rw [e,List.all_append,List.all_cons,hc]; simp
    rw [this]; simp
   ·rw [List.all_append,hi2]
    simpa using hc
  ·unfold leqB
   rw [hi,hi2]; rfl
def withL (l : List D0) (c n : Int) : List D0:=l.filter (fun p=>decide (p.1 < c)) ++ (if n = 2 then [] else [(c,n,())]) ++ l.filter (fun p=>decide (c < p.1))
theorem F269_eq (l : List D0) (c n : Int) (hl : l.length ≤ 1000) (hr : l.Pairwise (fun a b=>a.1 < b.1)) : F269 l c n = some (withL l c n):=by
 refine Def.eq ?_
 unfold F269
 simp only [letJ_eq]
 let I : List D0 → List D0 × Bool × Int → Prop:=fun pre s =>
  s.1.length ≤ pre.length + 1 ∧ ((s.2.1 = false ∧ n ≠ 2 ∧ s.1 = pre.filter (fun p=>decide (p.1 < c)) ∧ ∀ p ∈ pre,p.1 ≤ c) ∨ (s.2.1 = true ∧ s.1 = withL pre c n ∧ (n = 2 ∨ ∃ p ∈ pre,c < p.1)))
 refine Def.forB (l:=l) (fun s : List D0 × Bool × Int=>s.2.2) I (by omega) rfl ⟨by simp,?_⟩ (fun pre v post s e hs hi=>?_) (fun s hs hi=>?_)
 ·by_cases h : n = 2
  ·exact .inr ⟨by simpa using h,by simp [withL,h],.inl h⟩
  ·exact .inl ⟨by simpa using h,h,rfl,by simp⟩
 ·obtain ⟨hlen,hi⟩:=hi
  have hlt : pre.length < l.length:=by rw [e]; simp
  have hv : idxO l s.2.2 = some v:=by rw [hs,idxO_nat,e]; simp
  have hpv : ∀ p ∈ pre,p.1 < v.1:=fun p hp=>by
   rw [e,List.pairwise_append] at hr
   exact hr.2.2 p hp v (by simp)
  have hfl : ∀ q : D0 → Bool,(pre.filter q).length ≤ pre.length:=fun q=>List.length_filter_le _ _
  rw [hv]
  simp only [Option.bind_some]
  rcases hi with ⟨h1,hn,h2,h3⟩ | ⟨h1,h2,h3⟩
  ·rw [h1]
   simp only [Bool.not_false,Bool.and_self,if_true,Option.bind_some]
   refine Def.ite (fun hc=>?_) (fun hc=>?_)
   ·have hc : c < v.1:=by simpa using hc
    have hpc : pre.filter (fun p=>decide (c < p.1)) = []:=List.filter_eq_nil_iff.2 fun p hp=>by have:=h3 p hp; simp; omega
    refine Def.bind (Def.app (by simp only [List.length_cons,List.length_nil]; omega) ?_)
    rw [if_pos (by simp; omega)]
    refine Def.bind (Def.app (by simp only [List.length_append,List.length_cons,List.length_nil]; have:=hfl (fun p=>decide (p.1 < c)); omega) (.turn ⟨by rw [hs],?_,.inr ⟨rfl,?_,.inr ⟨v,by simp,hc⟩⟩⟩))
    ·rw [h2]; have:=hfl (fun p=>decide (p.1 < c)); simp only [List.length_append,List.length_cons,List.length_nil]; omega
    ·have hv1 : ¬ v.1 < c:=by omega
     simp [withL,hn,h2,List.filter_append,hpc,hc,hv1]
   ·have hc : ¬ c < v.1:=by simpa using hc
    by_cases hvc : v.1 = c
    ·rw [if_neg (by simp [hvc])]
     refine .turn ⟨by rw [hs],by simp; omega,.inl ⟨rfl,hn,?_,?_⟩⟩
     ·have : ¬ v.1 < c:=by omega
      simp [h2,List.filter_append,this]
     ·intro p hp
      rcases List.mem_append.1 hp with hp | hp
      ·exact h3 p hp
      ·simp at hp; subst hp; omega
    ·rw [if_pos (by simpa using hvc)]
     refine Def.bind (Def.app (by simp only [List.length_cons,List.length_nil]; omega) (.turn ⟨by rw [hs],by simp; omega,.inl ⟨rfl,hn,?_,?_⟩⟩))
     ·have : v.1 < c:=by omega
      simp [h2,List.filter_append,this]
     ·intro p hp
      rcases List.mem_append.1 hp with hp | hp
      ·exact h3 p hp
      ·simp at hp; subst hp; omega
  ·rw [h1]
   simp only [Bool.not_true,Bool.false_and,Bool.false_eq_true,if_false,Option.bind_some]
   by_cases hvc : v.1 = c
   ·rw [if_neg (by simp [hvc])]
    refine .turn ⟨by rw [hs],by simp; omega,.inr ⟨rfl,?_,?_⟩⟩
    ·have a1 : ¬ v.1 < c:=by omega
     have a2 : ¬ c < v.1:=by omega
     simp [h2,withL,List.filter_append,a1,a2]
    ·rcases h3 with h | ⟨p,hp,h⟩
     ·exact .inl h
     ·exact .inr ⟨p,by simp [hp],h⟩
   ·rw [if_pos (by simpa using hvc)]
    refine Def.bind (Def.app (by simp only [List.length_cons,List.length_nil]; omega) (.turn ⟨by rw [hs],?_,.inr ⟨rfl,?_,?_⟩⟩))
    ·simp only [List.length_append,List.length_cons,List.length_nil]; omega
    ·by_cases h : v.1 < c
     ·have a2 : ¬ c < v.1:=by omega
      have hpc : pre.filter (fun p=>decide (c < p.1)) = []:=List.filter_eq_nil_iff.2 fun p hp=>by have:=hpv p hp; simp; omega
      have hn : n = 2:=by
       rcases h3 with h' | ⟨p,hp,h'⟩
       ·exact h'
       ·have:=hpv p hp; omega
      simp [h2,withL,List.filter_append,h,a2,hn,hpc]
     ·have a2 : c < v.1:=by omega
      simp [h2,withL,List.filter_append,h,a2]
    ·rcases h3 with h | ⟨p,hp,h⟩
     ·exact .inl h
     ·exact .inr ⟨p,by simp [hp],h⟩
 ·obtain ⟨hlen,hi⟩:=hi
  rcases hi with ⟨h1,hn,h2,h3⟩ | ⟨h1,h2,h3⟩
  ·have hpc : l.filter (fun p=>decide (c < p.1)) = []:=List.filter_eq_nil_iff.2 fun p hp=>by have:=h3 p hp; simp; omega
   rw [h1]
   simp only [Bool.not_false,if_true,Option.bind_some]
   refine .done (Def.bind (Def.app (by simp only [List.length_cons,List.length_nil]; omega) (.ret ?_)))
   simp [withL,hn,h2,hpc]
  ·rw [h1]
   simp only [Bool.not_true,Bool.false_eq_true,if_false]
   exact .done (.ret h2)
end Go.Fn
namespace Go.Fn
set_option linter.unusedVariables false
open Go Go.Ab Go.Tx
theorem F270_eq (a b : Int) : F270 a b = some (if lv b < lv a then lv a else lv b):=by
 unfold F270
 simp only [F219_eq,Option.bind_some]
 by_cases h : lv b < lv a <;> simp [h]
def joinL (a : List D0) : List D0:=a.filter fun p=>decide (2 < p.2.1)
theorem F216_eq (a : List D0) (ha : a.length ≤ 500) (hr : a.Pairwise (fun a b=>a.1 < b.1)) (hl : ∀ p ∈ a,0 ≤ p.2.1 ∧ p.2.1 ≤ 5) : F216 a [] = some (joinL a):=by
 refine Def.eq ?_
 unfold F216
 simp only [letJ_eq]
 refine Def.for2 (l:=a) (fun pre s=>s = joinL pre ++ a.drop pre.length) (by omega) (by simp [joinL]) (fun pre v post s e hi=>?_) (fun s hi=>.done ?_)
 ·have hlt : pre.length < a.length:=by rw [e]; simp
  have hd : a.drop pre.length = v :: post:=by rw [e]; simp
  rw [hd] at hi
  have hr':=hr
  rw [e,List.pairwise_append,List.pairwise_cons] at hr'
  obtain ⟨_,⟨r2,r3⟩,r4⟩:=hr'
  have hsub : s.Sublist a:=by
   rw [hi,e]
   exact List.Sublist.append List.filter_sublist (List.Sublist.refl _)
  have hsl : s.length ≤ a.length:=hsub.length_le
  refine Def.bind' (Def.at e) (fun u hu=>?_)
  subst hu
  refine Def.bind' (Def.at e) (fun u' hu'=>?_)
  subst hu'
  obtain ⟨l0,l5⟩:=hl u' (by rw [e]; simp)
  rw [F159_eq [] _ (by simp),Option.bind_some,F270_eq,Option.bind_some,F269_eq _ _ _ (by omega) (hr.sublist hsub),Option.bind_some]
  refine .turn ⟨rfl,?_⟩
  have g2 : getL [] u'.1 = 2:=rfl
  rw [g2,lv_in l0 l5,show lv 2 = 2 from rfl]
  have f1 : s.filter (fun p=>decide (p.1 < u'.1)) = joinL pre:=by
   rw [hi,List.filter_append,List.filter_cons,if_neg (by simp),List.filter_eq_self.2,List.filter_eq_nil_iff.2]
   ·simp
   ·intro p hp; have:=r2 p hp; simp; omega
   ·intro p hp; have:=r4 p (List.mem_filter.1 hp).1 u' (by simp); simpa using this
  have f2 : s.filter (fun p=>decide (u'.1 < p.1)) = post:=by
   rw [hi,List.filter_append,List.filter_cons,if_neg (by simp),List.filter_eq_nil_iff.2,List.filter_eq_self.2]
   ·simp
   ·intro p hp; have:=r2 p hp; simpa using this
   ·intro p hp; have:=r4 p (List.mem_filter.1 hp).1 u' (by simp); simp; omega
  have f3 : a.drop (pre ++ [u']).length = post:=by rw [e]; simp
  simp only
  rw [withL,f1,f2,f3]
  have f4 : joinL (pre ++ [u']) = joinL pre ++ if 2 < u'.2.1 then [u'] else []:=by
   unfold joinL
   rw [List.filter_append]
   by_cases h : 2 < u'.2.1 <;> simp [h]
  rw [f4]
  by_cases h : 2 < u'.2.1
  ·have h' : ¬ u'.2.1 = 2:=by omega
   simp [h,h']
  ·simp [h]
 ·rw [List.drop_length,List.append_nil] at hi
  refine Def.for2 (l:=([] : List D0)) (fun pre x=>x = joinL a) (by simp) hi (fun pre v post s e hi=>by cases pre <;> cases e) (fun s hi=>.done (.ret hi))
theorem getL_join {a : List D0} (hr : a.Pairwise (fun a b=>a.1 < b.1)) (c : Int) : getL (joinL a) c = max 2 (getL a c):=by
 have hj : (joinL a).Pairwise (fun a b=>a.1 < b.1):=hr.filter _
 by_cases h : ∃ p ∈ a,p.1 = c
 ·obtain ⟨p,hp,rfl⟩:=h
  rw [getL_mem hr p hp]
  by_cases h2 : 2 < p.2.1
  ·rw [getL_mem hj p (List.mem_filter.2 ⟨hp,by simpa using h2⟩)]; omega
  ·rw [getL_none fun q hq e=>?_]
   ·omega
   ·have hq':=List.mem_filter.1 hq
    have:=getL_mem hr q hq'.1
    rw [e,getL_mem hr p hp] at this
    have h3 : 2 < q.2.1:=by simpa using hq'.2
    omega
 ·rw [getL_none (l:=a) fun p hp e=>h ⟨p,hp,e⟩,getL_none (l:=joinL a) fun p hp e=>h ⟨p,(List.mem_filter.1 hp).1,e⟩]
  rfl
theorem getL_in {l : List D0} (hr : FitL l) (c : Int) : 0 ≤ getL l c ∧ getL l c ≤ 5:=by
 by_cases h : ∃ p ∈ l,p.1 = c
 ·obtain ⟨p,hp,rfl⟩:=h
  rw [getL_mem hr.rise p hp]; have:=hr.lev p hp; omega
 ·rw [getL_none fun p hp e=>h ⟨p,hp,e⟩]; omega
theorem raise_in {o : List D0} (h : FitL o) : ∀ p ∈ raiseL o,0 ≤ p.2.1 ∧ p.2.1 ≤ 5:=by
 intro p hp
 obtain ⟨q,hq,rfl⟩:=List.mem_map.1 hp
 have:=h.lev q hq
 simp only [raiseN]
 split <;> omega
theorem place_eq {d o : List D0} (hd : FitL d) (ho : FitL o) : leqB d (joinL (raiseL o)) = placeB d o:=by
 have hr:=raiseL_rise ho
 have hg : ∀ c,2 ≤ max 2 (getL (raiseL o) c) ∧ max 2 (getL (raiseL o) c) ≤ 5:=fun c=>by
  have : getL (raiseL o) c ≤ 5:=by
   by_cases h : ∃ p ∈ raiseL o,p.1 = c
   ·obtain ⟨p,hp,rfl⟩:=h
    rw [getL_mem hr p hp]; exact (raise_in ho p hp).2
   ·rw [getL_none fun p hp e=>h ⟨p,hp,e⟩]; omega
  omega
 have h1 : (d.all fun p=>decide (lv p.2.1 ≤ lv (getL (joinL (raiseL o)) p.1))) = placeB d o:=by
  unfold placeB
  rw [Bool.eq_iff_iff,List.all_eq_true,List.all_eq_true]
  refine forall_congr' fun p=>forall_congr' fun hp=>?_
  have:=hd.lev p hp
  have h2:=hg p.1
  rw [getL_join hr,lv_in (by omega) (by omega),lv_in (by omega) h2.2]
 unfold leqB
 rw [h1]
 cases hp : placeB d o with
 | false=>rfl
 | true =>
  rw [Bool.true_and,List.all_eq_true]
  intro q hq
  have hq':=List.mem_filter.1 hq
  have q2 : 2 < q.2.1:=by simpa using hq'.2
  have q5:=(raise_in ho q hq'.1).2
  have hdi:=getL_in hd q.1
  rw [lv_in hdi.1 hdi.2,lv_in (by omega) q5,decide_eq_true_eq]
  by_cases h : ∃ p ∈ d,p.1 = q.1
  ·obtain ⟨p,hpd,e⟩:=h
   have:=List.all_eq_true.1 hp p hpd
   rw [e,getL_mem hr q hq'.1] at this
   rw [← e,getL_mem hd.rise p hpd]
   have:=of_decide_eq_true this
   omega
  ·rw [getL_none fun p hp e=>h ⟨p,hp,e⟩]; omega
theorem F153_eq (d o : List D0) (hd : d.length ≤ 400) (ho : o.length ≤ 400) (fd : FitL d) (fo : FitL o) : F153 d o = some (placeB d o):=by
 unfold F153
 have hj : (joinL (raiseL o)).length ≤ 400:=Nat.le_trans (List.length_filter_le _ _) (by simp [raiseL]; omega)
 rw [F217_eq o (by omega) fo,Option.bind_some,F216_eq _ (by simp [raiseL]; omega) (raiseL_rise fo) (raise_in fo),Option.bind_some,F100_eq _ _ (by unfold big; omega) (by unfold big; omega),Option.bind_some,place_eq fd fo]
theorem F184_eq (l : List Int) (t : Int) (hl : l.length ≤ 1000) (hp : l.Pairwise (· < ·)) (hn : t ∉ l) : F184 l t = some (insL l t):=by
 refine Def.eq ?_
 unfold F184
 simp only [letJ_eq]
 let I : List Int → List Int × Bool × Int → Prop:=fun pre s =>
  s.1.length ≤ pre.length + 1 ∧ ((s.2.1 = false ∧ s.1 = pre ∧ ∀ p ∈ pre,p < t) ∨ (s.2.1 = true ∧ s.1 = insL pre t ∧ ∃ p ∈ pre,t < p))
 refine Def.forB (l:=l) (fun s : List Int × Bool × Int=>s.2.2) I (by omega) rfl ⟨by simp,.inl ⟨rfl,rfl,by simp⟩⟩ (fun pre v post s e hs hi=>?_) (fun s hs hi=>?_)
 ·obtain ⟨hlen,hi⟩:=hi
  have hlt : pre.length < l.length:=by rw [e]; simp
  have hv : idxO l s.2.2 = some v:=by rw [hs,idxO_nat,e]; simp
  have hvt : v ≠ t:=fun h=>hn (by rw [e,h]; simp)
  have hpv : ∀ p ∈ pre,p < v:=fun p h=>by
   rw [e,List.pairwise_append] at hp
   exact hp.2.2 p h v (by simp)
  rw [hv]
  simp only [Option.bind_some]
  rcases hi with ⟨h1,h2,h3⟩ | ⟨h1,h2,h3⟩
  ·rw [h1]
   simp only [Bool.not_false,Bool.and_self,if_true,Option.bind_some]
   have f1 : pre.filter (fun p=>decide (p < t)) = pre:=List.filter_eq_self.2 fun p hp=>by simpa using h3 p hp
   have f2 : pre.filter (fun p=>!decide (p < t)) = []:=List.filter_eq_nil_iff.2 fun p hp=>by simpa using h3 p hp
   refine Def.ite (fun hc=>?_) (fun hc=>?_)
   ·have hc : t < v:=by simpa using hc
    refine Def.bind (Def.app (by simp only [List.length_cons,List.length_nil]; omega) (Def.bind (Def.app (by simp only [List.length_append,List.length_cons,List.length_nil]; omega) (.turn ⟨by rw [hs],?_,.inr ⟨rfl,?_,v,by simp,hc⟩⟩))))
    ·rw [h2]; simp only [List.length_append,List.length_cons,List.length_nil]; omega
    ·have hv1 : ¬ v < t:=by omega
     simp only [insL,List.filter_append,f1,f2,List.filter_cons,List.filter_nil,hv1,decide_false,Bool.not_false,if_true,if_false,Bool.false_eq_true,h2]
     simp
   ·have hc : ¬ t < v:=by simpa using hc
    refine Def.bind (Def.app (by simp only [List.length_cons,List.length_nil]; omega) (.turn ⟨by rw [hs],by simp; omega,.inl ⟨rfl,by rw [h2],?_⟩⟩))
    intro p hp
    rcases List.mem_append.1 hp with hp | hp
    ·exact h3 p hp
    ·simp at hp; subst hp; omega
  ·rw [h1]
   simp only [Bool.not_true,Bool.false_and,Bool.false_eq_true,if_false,Option.bind_some]
   obtain ⟨q,hq,hqt⟩:=h3
   have hvt2 : ¬ v < t:=by have:=hpv q hq; omega
   refine Def.bind (Def.app (by simp only [List.length_cons,List.length_nil]; omega) (.turn ⟨by rw [hs],?_,.inr ⟨rfl,?_,q,by simp [hq],hqt⟩⟩))
   ·simp only [List.length_append,List.length_cons,List.length_nil]; omega
   ·simp only [h2,insL,List.filter_append,List.filter_cons,List.filter_nil,hvt2,decide_false,Bool.not_false,if_true,if_false,Bool.false_eq_true]
    simp
 ·obtain ⟨hlen,hi⟩:=hi
  rcases hi with ⟨h1,h2,h3⟩ | ⟨h1,h2,h3⟩
  ·rw [h1]
   simp only [Bool.not_false,if_true,Option.bind_some]
   refine .done (Def.bind (Def.app (by simp only [List.length_cons,List.length_nil]; omega) (.ret ?_)))
   have f1 : l.filter (fun p=>decide (p < t)) = l:=List.filter_eq_self.2 fun p hp=>by simpa using h3 p hp
   have f2 : l.filter (fun p=>!decide (p < t)) = []:=List.filter_eq_nil_iff.2 fun p hp=>by simpa using h3 p hp
   rw [insL,f1,f2,h2]
  ·rw [h1]
   simp only [Bool.not_true,Bool.false_eq_true,if_false]
   exact .done (.ret h2)
theorem F79_eq (w : D7) (o : D6) (hl : (objs w).length ≤ 100000) (hp : Ris w) : F79 w o = some (putW w o):=by
 refine Def.eq ?_
 unfold F79
 simp only [letJ_eq]
 have fin : ∀ l,l = putL (objs w) o → Def (if decide (((List.length l : Nat) : Int) > (1024 : Int)) = true then some w else some (sett7_3_1 w l)) fun r=>r = putW w o:=by
  rintro l rfl
  unfold putW
  refine Def.ite (fun hc=>.ret ?_) (fun hc=>.ret ?_)
  ·rw [if_neg (by simp only [decide_eq_true_eq] at hc; omega)]
  ·rw [if_pos (by simp only [decide_eq_true_eq] at hc; omega)]
 let I : List D6 → List D6 × Bool × Int → Prop:=fun pre s =>
  s.1.length ≤ pre.length + 1 ∧ ((s.2.1 = false ∧ s.1 = pre ∧ ∀ p ∈ pre,p.1 < o.1) ∨ (s.2.1 = true ∧ s.1 = putL pre o ∧ ∃ p ∈ pre,o.1 ≤ p.1))
 refine Def.forB (l:=objs w) (fun s : List D6 × Bool × Int=>s.2.2) I (by omega) rfl ⟨by simp,.inl ⟨rfl,rfl,by simp⟩⟩ (fun pre v post s e hs hi=>?_) (fun s hs hi=>?_)
 ·obtain ⟨hlen,hi⟩:=hi
  have hlt : pre.length < (objs w).length:=by rw [e]; simp
  have hv : idxO w.2.2.2.1 s.2.2 = some v:=by rw [hs,idxO_nat]; show (objs w)[pre.length]? = some v; rw [e]; simp
  have hpv : ∀ p ∈ pre,p.1 < v.1:=fun p h=>by
   have hp':=hp
   unfold Ris at hp'
   rw [e,List.pairwise_append] at hp'
   exact hp'.2.2 p h v (by simp)
  rw [hv]
  simp only [Option.bind_some]
  rcases hi with ⟨h1,h2,h3⟩ | ⟨h1,h2,h3⟩
  ·rw [h1]
   simp only [Bool.not_false,Bool.and_self,if_true,Option.bind_some]
   have f1 : pre.filter (fun p=>decide (p.1 < o.1)) = pre:=List.filter_eq_self.2 fun p hp=>by simpa using h3 p hp
   have f2 : pre.filter (fun p=>decide (o.1 < p.1)) = []:=List.filter_eq_nil_iff.2 fun p hp=>by have:=h3 p hp; simp; omega
   refine Def.ite (fun hc=>?_) (fun hc=>?_)
   ·have hc : o.1 ≤ v.1:=by simpa using hc
    have hv1 : ¬ v.1 < o.1:=by omega
    refine Def.bind (Def.app (by simp only [List.length_cons,List.length_nil]; omega) ?_)
    by_cases hvo : v.1 = o.1
    ·have hv2 : ¬ o.1 < v.1:=by omega
     rw [if_neg (by simp [hvo])]
     refine .turn ⟨by rw [hs],by rw [h2]; simp,.inr ⟨rfl,?_,v,by simp,hc⟩⟩
     simp only [putL,List.filter_append,f1,f2,List.filter_cons,List.filter_nil,hv1,hv2,decide_false,if_false,Bool.false_eq_true,h2]
     simp
    ·have hv2 : o.1 < v.1:=by omega
     rw [if_pos (by simpa using hvo)]
     refine Def.bind (Def.app (by simp only [List.length_append,List.length_cons,List.length_nil]; omega) (.turn ⟨by rw [hs],?_,.inr ⟨rfl,?_,v,by simp,hc⟩⟩))
     ·rw [h2]; simp only [List.length_append,List.length_cons,List.length_nil]; omega
     ·simp only [putL,List.filter_append,f1,f2,List.filter_cons,List.filter_nil,hv1,hv2,decide_false,decide_true,if_true,if_false,Bool.false_eq_true,h2]
      simp
   ·have hc : ¬ o.1 ≤ v.1:=by simpa using hc
    rw [if_pos (by simp; omega)]
    refine Def.bind (Def.app (by simp only [List.length_cons,List.length_nil]; omega) (.turn ⟨by rw [hs],by simp; omega,.inl ⟨rfl,by rw [h2],?_⟩⟩))
    intro p hp
    rcases List.mem_append.1 hp with hp | hp
    ·exact h3 p hp
    ·simp at hp; subst hp; omega
  ·rw [h1]
   simp only [Bool.not_true,Bool.false_and,Bool.false_eq_true,if_false,Option.bind_some]
   obtain ⟨q,hq,hqt⟩:=h3
   have hvt2 : o.1 < v.1:=by have:=hpv q hq; omega
   have hvt3 : ¬ v.1 < o.1:=by omega
   rw [if_pos (by simp; omega)]
   refine Def.bind (Def.app (by simp only [List.length_cons,List.length_nil]; omega) (.turn ⟨by rw [hs],?_,.inr ⟨rfl,?_,q,by simp [hq],hqt⟩⟩))
   ·simp only [List.length_append,List.length_cons,List.length_nil]; omega
   ·simp only [h2,putL,List.filter_append,List.filter_cons,List.filter_nil,hvt2,hvt3,decide_false,decide_true,if_true,if_false,Bool.false_eq_true]
    simp
 ·obtain ⟨hlen,hi⟩:=hi
  rcases hi with ⟨h1,h2,h3⟩ | ⟨h1,h2,h3⟩
  ·rw [h1]
   simp only [Bool.not_false,if_true,Option.bind_some]
   refine .done (Def.bind (Def.app (by simp only [List.length_cons,List.length_nil]; omega) (fin _ ?_)))
   have f1 : (objs w).filter (fun p=>decide (p.1 < o.1)) = objs w:=List.filter_eq_self.2 fun p hp=>by simpa using h3 p hp
   have f2 : (objs w).filter (fun p=>decide (o.1 < p.1)) = []:=List.filter_eq_nil_iff.2 fun p hp=>by have:=h3 p hp; simp; omega
   rw [putL,f1,f2,h2]
  ·rw [h1]
   simp only [Bool.not_true,Bool.false_eq_true,if_false]
   exact .done (fin _ h2)
end Go.Fn
namespace Go.Fn
set_option linter.unusedVariables false
open Go Go.Ab Go.Tx
structure NiceD (o : D6) : Prop extends NiceO o where
 lab4 : o.2.2.1.length ≤ 400
theorem zeroO_niceD : NiceD (Ty.zero t6 : D6):={ zeroO_nice with lab4:=by decide }
theorem F38_eq (w : D7) (d : D6) (hw : Nice w) (hd : NiceO d) : F38 w d = some (roomF (objs w) d):=by
 unfold F38
 rw [F36_eq w d hw.few hd.dat hd.lns,Option.bind_some]
 rfl
theorem F120_eq (w : D7) (d o : D6) (hw : Nice w) (hd : NiceD d) (ho : NiceD o) (hn : o.1 ∉ lnk d) : F120 w d o = some (laidF (objs w) d o):=by
 refine Def.eq ?_
 unfold F120 laidF
 rw [F153_eq _ _ hd.lab4 ho.lab4 hd.fit ho.fit,Option.bind_some]
 simp only [letJ_eq]
 cases hp : placeB d.2.2.1 o.2.2.1 with
 | false=>exact .ret rfl
 | true =>
  simp only [Bool.not_true,Bool.false_eq_true,if_false,Bool.true_eq_false]
  by_cases h64 : 64 ≤ (lnk d).length
  ·have h1 : ((lnk d).length : Int) ≥ 64:=by omega
   rw [if_pos h64,if_pos (by simpa using h1)]
   exact .ret rfl
  ·have h1 : ¬ ((lnk d).length : Int) ≥ 64:=by omega
   rw [if_neg h64,if_neg (by simpa using h1)]
   rw [F38_eq w d hw hd.toNiceO,Option.bind_some]
   by_cases hr : quo o > roomF (objs w) d ∨ 0 < (lnk o).length
   ·rw [if_pos hr,if_pos]
    ·exact .ret rfl
    ·rcases hr with h | h
     ·rw [if_pos]
      simpa using h
     ·by_cases h' : decide (o.2.2.2.1 > roomF (objs w) d) = true
      ·rw [if_pos h']
      ·rw [if_neg h']; simpa using h
   ·rw [if_neg hr,if_neg]
    ·rw [F184_eq (lnk d) o.1 hd.lns hd.lnk hn,Option.bind_some]
     exact .ret rfl
    ·simp only [not_or,Int.not_lt] at hr
     rw [if_neg (by simpa using hr.1)]
     simpa using hr.2
theorem F55_eq (w : D7) (d : Int) (o : D6) (hw : Nice w) (hs : ∀ x ∈ objs w,NiceD x) (ho : NiceD o) (hh : ∀ x ∈ objs w,∀ y ∈ lnk x,∃ z ∈ objs w,z.1 = y) : F55 w d o = some (attachF w d o):=by
 have hf:=hw.few
 refine Def.eq ?_
 unfold F55 attachF
 rw [F43_eq w d hf,Option.bind_some]
 cases h1 : (findO (objs w) d).2 with
 | false=>exact .ret rfl
 | true =>
  simp only [Bool.not_true,Bool.false_eq_true,Bool.true_eq_false,if_false]
  by_cases h2 : (findO (objs w) d).1.2.1 = 2
  ·rw [if_neg (by simpa using h2),if_neg (by simpa using h2),F43_eq w o.1 hf,Option.bind_some]
   cases h3 : (findO (objs w) o.1).2 with
   | true=>exact .ret rfl
   | false =>
    simp only [Bool.false_eq_true,if_false]
    have hno : o.1 ∉ lnk (findO (objs w) d).1:=fun hi=>by
     obtain ⟨z,hz,e⟩:=hh _ (findO_of h1).1 _ hi
     rw [← e,findO_mem hw.ids z hz] at h3; cases h3
    rw [F120_eq w _ o hw (findO_all hs zeroO_niceD d) ho hno,Option.bind_some]
    by_cases h4 : (laidF (objs w) (findO (objs w) d).1 o).2 = 0
    ·rw [if_neg (by simpa using h4),if_neg (by simpa using h4),F79_eq w o (by omega) hw.ids,Option.bind_some,F79_eq _ _ (by have:=putW_len w o; omega) (putW_ris o hw.ids),Option.bind_some]
     exact .ret rfl
    ·rw [if_pos (by simpa using h4),if_pos h4]
     exact .ret rfl
  ·rw [if_pos (by simpa using h2),if_pos h2]
   exact .ret rfl
theorem F121_eq (k : Int) : F121 k = some (wholeK k):=by
 unfold F121 wholeK
 cases h : (k == 2) <;> simp
theorem F119_eq (k : Int) : F119 k = some (wholeK k):=by
 unfold F119 wholeK
 cases h : (k == 2) <;> simp
theorem F56_eq (w : D7) (d id : Int) (hw : Nice w) (hs : ∀ x ∈ objs w,NiceD x) : F56 w d id = some (linkF w d id):=by
 have hf:=hw.few
 have hd:=findO_all hs zeroO_niceD d
 have hi:=findO_all hs zeroO_niceD id
 refine Def.eq ?_
 unfold F56 linkF
 rw [F43_eq w d hf,Option.bind_some,F43_eq w id hf,Option.bind_some]
 simp only [letJ_eq]
 have hoi : (findO (objs w) id).2 = true → (findO (objs w) id).1.1 = id:=fun h=>(findO_of h).2
 generalize findO (objs w) d = c at hd
 generalize findO (objs w) id = o at hi hoi
 by_cases h1 : c.2 = false ∨ o.2 = false
 ·rw [if_pos h1,if_pos]
  ·exact .ret rfl
  ·rcases h1 with h | h <;> simp [h]
 ·rw [if_neg h1]
  simp only [not_or,Bool.not_eq_false] at h1
  rw [if_neg (by simp [h1.1,h1.2])]
  refine Def.bindI (fun b=>b = wholeK o.1.2.1) (fun _=>Def.of (F121_eq _) rfl) (fun v6 q6 n6=>?_)
  by_cases h2 : c.1.2.1 ≠ 2 ∨ wholeK o.1.2.1 = true
  ·rw [if_pos h2,if_pos]
   ·exact .ret rfl
   ·by_cases h : c.1.2.1 = 2
    ·have h' : wholeK o.1.2.1 = true:=by
      rcases h2 with h2 | h2
      ·exact absurd h h2
      ·exact h2
     rw [q6 (by simp [h]),h']
     simp
    ·simp [h]
  ·rw [if_neg h2]
   simp only [not_or,Decidable.not_not] at h2
   rw [if_neg (by rw [q6 (by simp [h2.1])]; simp [h2.1,h2.2])]
   cases h3 : o.1.2.2.2.2.1 with
   | false=>exact .ret rfl
   | true =>
    simp only [Bool.not_true,Bool.false_eq_true,Bool.true_eq_false,if_false]
    rw [F103_eq (lnk c.1) id (by have:=hd.lns; omega),Option.bind_some]
    by_cases h4 : id ∈ lnk c.1
    ·rw [if_pos h4,if_pos (by simpa using h4)]
     exact .ret rfl
    ·rw [if_neg h4,if_neg (by simpa using h4),F120_eq w _ _ hw hd hi (by rw [hoi h1.2]; exact h4),Option.bind_some]
     by_cases h5 : (laidF (objs w) c.1 o.1).2 = 0
     ·rw [if_neg (by simpa using h5),if_neg (by simpa using h5),F79_eq w _ (by omega) hw.ids,Option.bind_some]
      exact .ret rfl
     ·rw [if_pos (by simpa using h5),if_pos h5]
      exact .ret rfl
def fixF (w : D7) (id : Int) : D7 × Int :=
 if (findO (objs w) id).2 = false then (w,1)
 else if wholeK (findO (objs w) id).1.2.1 = true then (w,3)
 else (putW w (sett6_4_1 (findO (objs w) id).1 true),0)
theorem F57_eq (w : D7) (id : Int) (hw : Nice w) : F57 w id = some (fixF w id):=by
 have hf:=hw.few
 refine Def.eq ?_
 unfold F57 fixF
 rw [F69_eq w id (by omega) hw.ids,Option.bind_some]
 simp only [letJ_eq]
 cases h1 : (findO (objs w) id).2 with
 | false=>exact .ret rfl
 | true =>
  simp only [Bool.not_true,Bool.false_eq_true,Bool.true_eq_false,if_false]
  rw [F119_eq,Option.bind_some]
  cases h2 : wholeK (findO (objs w) id).1.2.1 with
  | true=>exact .ret rfl
  | false =>
   simp only [Bool.false_eq_true,if_false]
   rw [F74_eq w _ (by omega) hw.ids,Option.bind_some]
   exact .ret rfl
theorem F58_eq (w : D7) (id : Int) (hw : Nice w) : F58 w id = some (fixF w id):=by
 have hf:=hw.few
 refine Def.eq ?_
 unfold F58 fixF
 rw [F43_eq w id hf,Option.bind_some]
 cases h1 : (findO (objs w) id).2 with
 | false=>exact .ret rfl
 | true =>
  simp only [Bool.not_true,Bool.false_eq_true,Bool.true_eq_false,if_false]
  rw [F121_eq,Option.bind_some]
  cases h2 : wholeK (findO (objs w) id).1.2.1 with
  | true=>exact .ret rfl
  | false =>
   simp only [Bool.false_eq_true,if_false]
   rw [F79_eq w _ (by omega) hw.ids,Option.bind_some]
   exact .ret rfl
theorem F59_eq (w : D7) (d id n : Int) (hw : Nice w) (hs : ∀ x ∈ objs w,NiceD x) (hh : ∀ x ∈ objs w,∀ y ∈ lnk x,∃ z ∈ objs w,z.1 = y) : F59 w d id n = some (moveF w d id n):=by
 have hf:=hw.few
 have hd:=findO_all hs zeroO_niceD d
 have hi:=findO_all hs zeroO_niceD id
 have hfd : (findO (objs w) d).2 = true → id ∈ lnk (findO (objs w) d).1 → (findO (objs w) id).2 = true:=fun h hi=>by
  obtain ⟨z,hz,e⟩:=hh _ (findO_of h).1 _ hi
  rw [← e,findO_mem hw.ids z hz]
 refine Def.eq ?_
 unfold F59 moveF
 rw [F43_eq w d hf,Option.bind_some]
 simp only [letV_eq]
 rw [F43_eq w id hf,Option.bind_some]
 generalize findO (objs w) d = c at hd hfd
 generalize findO (objs w) id = o at hi hfd
 refine Def.bindI (fun b=>b = (lnk c.1).contains id) (fun _=>Def.of (F103_eq (lnk c.1) id (by have:=hd.lns; omega)) rfl) (fun v5 q5 n5=>?_)
 by_cases h1 : c.2 = false ∨ o.2 = false ∨ id ∉ lnk c.1
 ·rw [if_pos h1,if_pos]
  ·exact .ret rfl
  ·cases hc : c.2 with
   | false=>simp
   | true =>
    have hni : id ∉ lnk c.1:=by
     rcases h1 with h | h | h
     ·rw [hc] at h; cases h
     ·intro hi; rw [hfd hc hi] at h; cases h
     ·exact h
    rw [q5 (by simp [hc])]
    have : (lnk c.1).contains id = false:=by simpa using hni
    rw [this]; simp
 ·rw [if_neg h1]
  simp only [not_or,Bool.not_eq_false,Decidable.not_not] at h1
  have h' : (lnk c.1).contains id = true:=by simpa using h1.2.2
  rw [if_neg (by rw [q5 (by simp [h1.1]),h']; simp [h1.1])]
  cases h3 : o.1.2.2.2.2.1 with
  | true=>exact .ret rfl
  | false =>
   simp only [Bool.false_eq_true,if_false]
   by_cases h4 : n < -4096 ∨ 4096 < n
   ·rw [if_pos h4,if_pos]
    ·exact .ret rfl
    ·rcases h4 with h | h
     ·simp [h]
     ·by_cases h6 : n < -4096 <;> simp [h,h6]
   ·rw [if_neg h4]
    simp only [not_or,Int.not_lt] at h4
    rw [if_neg (by simp; omega)]
    rw [F38_eq w c.1 hw hd.toNiceO,Option.bind_some]
    refine Def.bindI (fun b=>b = usesF (objs w) (pages o.1) (lnk o.1)) (fun _=>Def.of (F36_eq w o.1 hf hi.dat hi.lns) rfl) (fun v8 q8 _=>?_)
    by_cases h7 : n > roomF (objs w) c.1
    ·rw [if_pos (by simp [h7])]
     exact .ret (by rw [if_pos (Or.inl h7)])
    ·have q:=q8 (by simp [h7])
     subst q
     rw [decide_eq_false h7]
     simp only [Bool.false_eq_true,if_false]
     show Def (if (if (if decide (IntKind.wrap .i64 (quo o.1 + n) < usesF (objs w) (pages o.1) (lnk o.1)) = true then true else decide (IntKind.wrap .i64 (quo o.1 + n) < 1)) = true then true else decide (IntKind.wrap .i64 (quo o.1 + n) > 4096)) = true then _ else _) _
     generalize IntKind.wrap .i64 (quo o.1 + n) = q
     generalize usesF (objs w) (pages o.1) (lnk o.1) = u
     by_cases h8 : q < max 1 u
     ·rw [if_pos]
      ·exact .ret (by rw [if_pos (Or.inr (Or.inl h8))])
      ·by_cases h9 : q < u
       ·simp [h9]
       ·have h10 : q < 1:=by omega
        simp [h9,h10]
     ·have h9 : ¬ q < u:=by omega
      have h10 : ¬ q < 1:=by omega
      rw [decide_eq_false h9,decide_eq_false h10]
      simp only [Bool.false_eq_true,if_false]
      by_cases h11 : q > 4096
      ·rw [if_pos (by simpa using h11)]
       exact .ret (by rw [if_pos (Or.inr (Or.inr h11))])
      ·rw [if_neg (by simpa using h11)]
       refine Def.bind (Def.of (F79_eq w (sett6_3_1 o.1 q) (by omega) hw.ids) (.ret ?_))
       rw [if_neg]
       rintro (h | h | h)
       ·exact h7 h
       ·exact h8 h
       ·exact h11 h
theorem putW_ok {w : D7} {o : D6} (hw : ∀ x ∈ objs w,OkO x) (ho : OkO o) : ∀ x ∈ objs (putW w o),OkO x:=by
 unfold putW
 split
 ·intro x hx
  rcases mem_putL.1 hx with rfl | ⟨h,_⟩
  ·exact ho
  ·exact hw x h
 ·exact hw
theorem same_putW {w : D7} {o : D6} (hl : (objs w).length ≤ 1000) (hw : ∀ x ∈ objs w,OkO x) (ho : OkO o) : F26 (putW w o) (putW w o) = some true :=
 F26_refl _ (by have:=putW_len w o; unfold big; omega) (putW_ok hw ho)
theorem okO_links {o : D6} {l : List Int} (h : OkO o) (hl : l.length ≤ big) : OkO (sett6_5_1 o l) :=
 ⟨h.lab,hl,h.dat,h.mps,h.clr,h.alr,h.lbs,h.gra,h.gcl,h.inn,h.out⟩
theorem okO_quo {o : D6} {q : Int} (h : OkO o) : OkO (sett6_3_1 o q) :=
 ⟨h.lab,h.lnk,h.dat,h.mps,h.clr,h.alr,h.lbs,h.gra,h.gcl,h.inn,h.out⟩
theorem okO_fix {o : D6} {b : Bool} (h : OkO o) : OkO (sett6_4_1 o b) :=
 ⟨h.lab,h.lnk,h.dat,h.mps,h.clr,h.alr,h.lbs,h.gra,h.gcl,h.inn,h.out⟩
theorem okO_zero : OkO (Ty.zero t6 : D6):=⟨by decide,by decide,by decide,by decide,by decide,by decide,fun i=>Nat.zero_le _,by decide,by decide,by decide,by decide⟩
theorem laid_okO {l : List D6} {d o : D6} (hd : OkO d) (hk : (lnk d).length ≤ 1000) : OkO (laidF l d o).1:=by
 unfold laidF
 split
 ·exact hd
 split
 ·exact hd
 split
 ·exact hd
 ·exact okO_links hd (by have:=insL_len (lnk d) o.1; unfold big; omega)
theorem F9_true (w : D7) (o : D6) (d id n : Int) (hw : wfT t7 w) (ho : wfT t6 o) : F9 w o d id n = some true:=by
 obtain ⟨_,hok⟩:=ok_of hw
 refine Def.eq ?_
 unfold F9
 refine Def.bind' (F30_def w) (fun v1 q1=>?_)
 refine Def.bindI _ (fun hc=>F33_def w (q1 (by simpa using hc)).1 (q1 (by simpa using hc)).2 hok) (fun v2 q2 n2=>?_)
 refine Def.bindI _ (fun hc=>F34_def o (okO_of ho)) (fun v3 q3 n3=>?_)
 refine Def.ite (fun _=>Def.bind (Def.of awake14 (.ret rfl))) (fun hc=>?_)
 simp at hc
 obtain ⟨⟨⟨rfl,rfl⟩,rfl⟩,hl0⟩:=hc
 obtain ⟨hW,hS⟩:=q2 rfl rfl
 have hO:=q3 rfl rfl
 have hN : Nice w:={
  few:=by have:=hW.few; omega
  ids:=hW.ids
  lns:=fun o ho=>by have:=hW.lns o ho; omega
  lnk:=hW.lnk
  dat:=fun o ho=>by have:=hW.dat o ho; omega }
 have nd : ∀ x : D6,Snd6 x → NiceD x:=fun x h=>{
  lns:=by have:=h.lns; omega
  lnk:=h.lnk
  dat:=by
   by_cases e : x.2.1 = 1
   ·have:=h.seg e; have:=h.quo; omega
   ·rw [h.dat e]; simp
  lab:=by have:=h.lab; omega
  fit:=h.fit
  lab4:=by have:=h.lab; omega }
 have hs : ∀ x ∈ objs w,NiceD x:=fun x hx=>nd x (hS x hx)
 have hs' : ∀ x ∈ objs w,NiceO x:=fun x hx=>(hs x hx).toNiceO
 have hf:=hN.few
 have hfo : ∀ i,OkO (findO (objs w) i).1:=fun i=>findO_all hok okO_zero i
 have hfn : ∀ i,(lnk (findO (objs w) i).1).length ≤ 1000:=fun i=>(findO_all hs' zeroO_nice i).lns
 have sw : F26 w w = some true:=F26_refl w (by unfold big; omega) hok
 have s1 : F26 (attachF w d o).1 (attachF w d o).1 = some true:=by
  unfold attachF
  split
  ·exact sw
  split
  ·exact sw
  split
  ·exact sw
  split
  ·exact sw
  ·exact same_putW (by have:=putW_len w o; have:=hW.few; omega) (putW_ok hok (okO_of ho)) (laid_okO (hfo d) (hfn d))
 have s2 : F26 (linkF w d id).1 (linkF w d id).1 = some true:=by
  unfold linkF
  split
  ·exact sw
  split
  ·exact sw
  split
  ·exact sw
  split
  ·exact sw
  split
  ·exact sw
  ·exact same_putW hf hok (laid_okO (hfo d) (hfn d))
 have s3 : F26 (fixF w id).1 (fixF w id).1 = some true:=by
  unfold fixF
  split
  ·exact sw
  split
  ·exact sw
  ·exact same_putW hf hok (okO_fix (hfo id))
 have s4 : F26 (moveF w d id n).1 (moveF w d id n).1 = some true:=by
  unfold moveF
  split
  ·exact sw
  split
  ·exact sw
  split
  ·exact sw
  split
  ·exact sw
  ·exact same_putW hf hok (okO_quo (hfo id))
 rw [F51_eq w d o hN hs' (nd o hO).toNiceO,F55_eq w d o hN hs (nd o hO) hW.has,F53_eq w d id hN hs',F56_eq w d id hN hs,F57_eq w id hN,F58_eq w id hN,F54_eq w d id n hN hs',F59_eq w d id n hN hs hW.has]
 simp only [Option.bind_some,s1,s2,s3,s4,awake14,letV_eq,if_true,Bool.and_self,Bool.and_true,beq_self_eq_true]
 exact .ret rfl
end Go.Fn
namespace Go.Fn
set_option maxRecDepth 100000
open Go Go.Ab Go.Tx
theorem law9 {st : TupD [t7,t6,(.int .u64),(.int .u64),(.int .i64)]} (h : EnvWf (toVs [t7,t6,(.int .u64),(.int .u64),(.int .i64)] st) → F9 st.1 st.2.1 st.2.2.1 st.2.2.2.1 st.2.2.2.2 = some true) : PureOK Go.Proofs.Tryz.prog 9 ((toVs [t7,t6,(.int .u64),(.int .u64),(.int .i64)] st).map Val.d) [.b true] :=
 law_of L26 pm 9 [t7,t6,(.int .u64),(.int .u64),(.int .i64)] .bool (fun st=>F9 st.1 st.2.1 st.2.2.1 st.2.2.2.1 st.2.2.2.2) [] [] [] spOK_nil (fun st=>by kernel_rfl) (by kernel_rfl) h
end Go.Fn
