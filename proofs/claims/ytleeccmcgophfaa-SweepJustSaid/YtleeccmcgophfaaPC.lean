import Derived.Test.YtleeccmcgophfaaPB
import Derived.Laws.IdiomCopy
import Derived.Laws.AppendOwn
import Derived.Lib.AppendZerosOnto
set_option linter.all false
namespace Go.Ab
open Go Go.RowKit
variable {P:Program} {w:World} {n:Nat} {Mo:Cells} {m:Mp} {s:Sa} {as:List Act} {p:Name}
def G7 (P:Program) (s:Sa):List ResultVar→(List V→Prop)→Prop
 | [],k=>k []
 | .tmp t::rs,k=>G7 P s rs fun vs=>k (lkT t s.ts::vs)
 | .cell a t::rs,k=>match zX P t with
  | some ag=>(ag=false→tsz P t≠0)∧match lkT a s.ts with
   | .ptr nm off=>match aj nm s.bx with
    | some c=>off+tsz P t≤c.cells.length∧G7 P s rs fun vs=>k (bF ag off (tsz P t) c::vs)
    | none=>False
   | _=>False
  | none=>False
def iU:List V→V
 | [v]=>v
 | vs=>.tup vs
def Sa.pop (s:Sa):Sa:=match s.sv with
 | f::fs=>{ rd:=f.rd,n:=f.n,ts:=f.ts,sv:=fs,bx:=s.bx,lp:=s.lp,ow:=s.ow,vc:=s.vc }
 | []=>s
def xk:Nat→List V→List (Nat×V)
 | _,[]=>[]
 | i,v::vs=>(i,v)::xk (i+1) vs
def Sa.push (s:Sa) (n:Nat) (ts:List (Nat×V)):Sa:={ rd:=none,n:=n,ts:=ts,sv:={ rd:=s.rd,n:=s.n,ts:=s.ts }::s.sv,bx:=s.bx,lp:=s.lp,ow:=s.ow,vc:=s.vc }
theorem Ak (vs:List V):∀ (i t:Nat),lkT t (xk i vs)=if h:i≤t∧t - i<vs.length then vs[t - i] else .dead:=by
 induction vs with
 | nil=>intro i t;simp [xk,lkT]
 | cons v vs ih =>
  intro i t
  simp only [xk,lkT]
  by_cases e:i=t
  ·subst e;simp
  ·simp only [e,if_false,ih]
   by_cases h:i+1≤t∧t - (i+1)<vs.length
   ·have h' : i≤t∧t - i<(v::vs).length:=⟨by omega,by simp;omega⟩
    rw [dif_pos h,dif_pos h']
    have e2:t - i=(t - (i+1))+1:=by omega
    simp only [e2,List.getElem_cons_succ]
   ·have h' : ¬ (i≤t∧t - i<(v::vs).length):=fun hx=>h ⟨by omega,by have:=hx.2;simp at this;omega⟩
    rw [dif_neg h,dif_neg h']
theorem Rel.push (h:Rel Mo m s as w) (nt:Nat) {args:List V} {vs:Array Value} (ha:jQ w (Tot Mo s.bx s.ow m) m args vs) (hle:args.length≤nt) :
  Rel Mo m (s.push nt (xk 0 args)) ({ tmps:=vs++Array.replicate (nt - vs.size) undef,defers:=[] }::as) w:=by
 refine ⟨by simp [Sa.push,h.len],?_,h.box,h.inj,h.oww,h.owx,h.owb,?_,?_,h.lpi,h.mo,?_,h.owm,h.vec⟩
 ·intro i hi hi'
  cases i with
  | zero =>
   refine ⟨by simp [Sa.push,ha.1];omega,fun t=>?_,fun d hd=>by grind⟩
   simp only [Sa.push,List.getElem_cons_zero]
   rw [Ak]
   split
   ·rename_i hx
    have:=ha.2 t (by grind)
    simp only [Nat.sub_zero]
    rw [Array.getD_eq_getD_getElem?] at this ⊢
    grind
   ·exact .dead
  | succ i=>exact h.fr i (by simpa [Sa.push] using hi) (by grind)
 ·intro l q hl
  obtain ⟨r,a,hr⟩:=h.lps l q hl
  refine ⟨r,a,⟨hr.heap,hr.ps,hr.assign,hr.body,?_,hr.tmps,hr.stat⟩⟩
  have:=hr.own
  grind
 ·intro l q hl
  have:=h.dep l q hl
  grind
 ·have:=h.mks
  simpa [marks] using this
theorem Rel.pop {a:Act} (h:Rel Mo m s (a::as) w) (hne:s.sv≠[]) (hdep:∀ l q,aj l s.lp=some q→q.depth+1<as.length):Rel Mo m s.pop as w:=by
 cases hsv:s.sv with
 | nil=>grind
 | cons f fs =>
  have e:s.pop={ rd:=f.rd,n:=f.n,ts:=f.ts,sv:=fs,bx:=s.bx,lp:=s.lp,ow:=s.ow,vc:=s.vc }:=by simp [Sa.pop,hsv]
  rw [e]
  have hl:=h.len
  rw [hsv] at hl
  simp only [List.length_cons] at hl
  refine ⟨by grind,?_,h.box,h.inj,h.oww,h.owx,h.owb,?_,hdep,h.lpi,h.mo,?_,h.owm,h.vec⟩
  ·intro i hi hi'
   have:=h.fr (i+1) (by grind) (by grind)
   simp_all
  ·intro l q hl
   obtain ⟨r,b,hr⟩:=h.lps l q hl
   refine ⟨r,b,⟨hr.heap,hr.ps,hr.assign,hr.body,?_,hr.tmps,hr.stat⟩⟩
   have:=hr.own
   grind
  ·have:=h.mks
   simp only [marks,List.flatMap_cons,List.nodup_append] at this
   exact this.2.1
def Y6 (tmps:Array Value):ResultVar→Sem Value
 | .tmp t=>pure (tmps.getD t undef)
 | .cell a t=>do loadVar t (← asAddr (tmps.getD a undef))
theorem Lj (fn:Func) (tmps:Array Value):results fn tmps=(do let vs ← fn.results.mapM (Y6 tmps);pure (if h:vs.size=1 then vs[0] else .tuple vs)):=rfl
theorem G8 {a:Act} (h:Rel Mo m s (a::as) w):∀ (rs:List ResultVar) (K:List V→Prop),G7 P s rs K →
  ∃ vs cs,K vs∧(rs.mapM (Y6 a.tmps)).run P w = .ok cs w∧cs.length=vs.length∧∀ i (h1:i<vs.length) (h2:i<cs.length),aU w (Tot Mo s.bx s.ow m) m vs[i] cs[i]:=by
 intro rs
 induction rs with
 | nil=>intro K hK;exact ⟨[],[],hK,by simp,rfl,by simp⟩
 | cons r rs ih =>
  intro K hK
  cases r with
  | tmp t =>
   obtain ⟨vs,cs,k1,k2,k3,k4⟩:=ih _ hK
   refine ⟨lkT t s.ts::vs,a.tmps.getD t undef::cs,k1,by grind [Sem.run_bind,Y6,Sem.run_pure,Result.andThen_ok],by grind,fun i h1 h2=>?_⟩
   cases i with
   | zero=>exact h.get t
   | succ i=>grind
  | cell b t =>
   simp only [G7] at hK
   split at hK
   ·rename_i ag hag
    obtain ⟨hz,hK⟩:=hK
    split at hK
    ·rename_i nm off hb
     split at hK
     ·rename_i c hc
      obtain ⟨hle,hK⟩:=hK
      obtain ⟨vs,cs,k1,k2,k3,k4⟩:=ih _ hK
      have hv:=h.get b
      rw [hb] at hv
      obtain ⟨ds,T,hbx⟩:=h.box nm c hc
      have hload:=mF (P:=P) (fun j=>ds.getD (off+j) undef) hag hz (b:=m.bx nm) (off:=off) (w:=w) (fun j hj=>by
       rw [cell_of_block (hbx.heap.cells (rF (by omega))),Array.getD_eq_getD_getElem?,Array.getElem?_eq_getElem (by have:=hbx.size;omega)];rfl)
      refine ⟨bF ag off (tsz P t) c::vs,_::cs,k1,by
       simp only [List.mapM_cons,Sem.run_bind,Y6,hv.mG];simp only [asAddr,Sem.run_pure,Result.andThen_ok,hload];rw [k2];rfl,by grind,fun i h1 h2=>?_⟩
      cases i with
      | zero=>exact kK (f:=fun j=>ds.getD (off+j) undef) hle hz (fun j hj=>hbx.leafs _ (by omega)) (fun j hj=>hbx.rep _ (by omega))
      | succ i=>grind
     grind
    grind
   grind
theorem EG {a:Act} {fn:Func} (h:Rel Mo m s (a::as) w) (K:List V→Prop) (hK:G7 P s fn.results.toList K) :
  ∃ vs c,K vs∧(results fn a.tmps).run P w = .ok c w∧aU w (Tot Mo s.bx s.ow m) m (iU vs) c:=by
 obtain ⟨vs,cs,k1,k2,k3,k4⟩:=G8 h fn.results.toList K hK
 refine ⟨vs,if cs.length=1 then cs.getD 0 undef else .tuple cs.toArray,k1,?_,?_⟩
 ·rw [Lj]
  simp only [Sem.run_bind]
  have e:fn.results.mapM (Y6 a.tmps)=(fun l=>l.toArray) <$> fn.results.toList.mapM (Y6 a.tmps):=by
   rw [← List.mapM_toArray]
  grind [Sem.run_map,Result.andThen_ok,Sem.run_pure]
 ·by_cases h1:cs.length=1
  ·rw [if_pos h1]
   obtain ⟨c,rfl⟩:=List.length_eq_one_iff.1 h1
   obtain ⟨v,rfl⟩:=List.length_eq_one_iff.1 (by rw [← k3];exact h1)
   exact k4 0 (by simp) (by simp)
  ·rw [if_neg h1]
   have:iU vs = .tup vs:=by
    unfold iU
    split
    ·grind
    rfl
   rw [this]
   exact .tup (by grind) (fun i hi=>by
    simp_all)
end Go.Ab
namespace Go.Ab
open Go Go.RowKit
variable {P:Program} {w:World} {n:Nat} {Mo:Cells} {m:Mp} {s:Sa} {as:List Act} {p:Name}
theorem Rel.Tn {a:Act} {r:Nat} {ds:List Deferred} (h:Rel Mo m s ({ a with defers:={ target:=.collected r,args:=#[] }::ds }::as) w) (hr:w.heap[r]? = some (.deferred (some []))) (o:Obj) :
  Rel Mo m s ({ a with defers:=ds }::as) (w.putObj r o):=by
 have hne:∀ (b:Nat) (x:Obj),w.heap[b]? = some x→(∀ y,x ≠ .deferred y)→(w.putObj r o).heap[b]? = some x:=by
  grind [World.putObj_heap_other]
 have hst:lC w (Tot Mo s.bx s.ow m) (w.putObj r o) (Tot Mo s.bx s.ow m):=by
  intro b j c hc hm
  grind [World.cell?]
 have hsp:∀ i sz v,bU w m i sz v→bU (w.putObj r o) m i sz v:=by
  intro i sz v hs
  unfold bU at hs ⊢
  split at hs
  ·grind
  ·grind
  grind
 have hrep:∀ v c,aU w (Tot Mo s.bx s.ow m) m v c→aU (w.putObj r o) (Tot Mo s.bx s.ow m) m v c:=fun v c hv=>hv.mono hst (fun _ _=>rfl) (fun i _ sz v hs=>hsp i sz v hs) (fun _ _=>rfl)
 have hmk:=h.mks
 simp only [marks,List.flatMap_cons,List.cons_append,List.nodup_cons] at hmk
 have hdef:∀ (d:Deferred),d≠{ target:=.collected r,args:=#[] }→(∃ r',d={ target:=.collected r',args:=#[] }∧w.heap[r']? = some (.deferred (some [])))→∃ r',d={ target:=.collected r',args:=#[] }∧(w.putObj r o).heap[r']? = some (.deferred (some [])):=by
  grind [World.putObj_heap_other]
 refine ⟨by simpa using h.len,?_,?_,h.inj,?_,h.owx,h.owb,?_,by simpa using h.dep,h.lpi,fun b j hm=>by rw [World.putObj_size];exact h.mo b j hm,?_,h.owm,fun k d hk=>⟨(h.vec k d hk).1,(h.vec k d hk).2.putObj hr (by simp) hst⟩⟩
 ·intro i hi hi'
  cases i with
  | zero =>
   have h0:=h.fr 0 (by simp) (by simp)
   refine ⟨h0.size,fun t=>hrep _ _ (h0.ts t),fun d hd=>?_⟩
   have hd' : d∈ds:=by grind
   refine hdef d (fun e=>hmk.1 (by grind)) ?_
   exact h0.def_ d (by grind)
  | succ i =>
   have h0:=h.fr (i+1) hi (by grind)
   simp only [List.getElem_cons_succ] at h0 ⊢
   refine ⟨h0.size,fun t=>hrep _ _ (h0.ts t),fun d hd=>?_⟩
   refine hdef d (fun e=>hmk.1 ?_) (h0.def_ d hd)
   grind
 ·intro nm c hn
  obtain ⟨cs,T,hb⟩:=h.box nm c hn
  exact ⟨cs,T,hb.heap.mono (fun o ho h1 _=>hne _ _ ho h1),hb.size,hb.leafs,fun i hi=>hrep _ _ (hb.rep i hi)⟩
 ·intro i hi hn
  obtain ⟨c,T,h1,h2⟩:=h.oww i hi hn
  grind
 ·intro l q hl
  obtain ⟨rc,b,hx⟩:=h.lps l q hl
  refine ⟨rc,b,⟨hne _ _ hx.heap (by simp),hx.ps,hx.assign,hx.body,?_,hx.tmps,hx.stat⟩⟩
  have hown:=hx.own
  have hd:=h.dep l q hl
  simp only [List.length_cons] at hd
  rw [List.reverse_cons,List.getElem?_append_left (by simp;omega)] at hown ⊢
  exact hown
 ·exact hmk.2
theorem nX {B:Nat} {r:Nat} {o:Obj} (h:B≤r):Below B w (w.putObj r o) :=
 ⟨rfl,rfl,rfl,by simp,fun k hk=>World.putObj_heap_other (by omega)⟩
theorem Step.after {m' : Mp} {s' : Sa} {w1 w2:World} (h:Step m s w m' s' w1) (hb:Below w.heap.size w1 w2):Step m s w m' s' w2:=by
 refine ⟨⟨hb.os.trans h.keeps.os,hb.tape.trans h.keeps.tape,hb.output.trans h.keeps.output,Nat.le_trans h.keeps.size hb.size,fun b hlt hC hL=>?_,fun b c T f hc hL=>?_⟩,h.mt,h.lp,h.rd,h.svrd,h.lpm⟩
 ·rw [hb.block b hlt];exact h.keeps.blk b hlt hC hL
 ·obtain ⟨c',h1,h2,h3⟩:=h.keeps.cel b c T f hc hL
  exact ⟨c',by rw [hb.block b (Array.getElem?_eq_some_iff.1 hc).1];grind,h2,h3⟩
theorem leaves {fn:Func} {F:Fence} {R:Ending→World→Prop} {K:List V→Prop} (B:Nat) (hK:G7 P s fn.results.toList K):∀ (ds:List Deferred) (a:Act) (w:World),a.defers=ds →
  Rel Mo m s (a::as) w→(∀ d∈ds,∃ r,d={ target:=.collected r,args:=#[] }∧B≤r) →
  (∀ vs c w',K vs→Rel Mo m s ({ a with defers:=[] }::as) w' → aU w' (Tot Mo s.bx s.ow m) m (iU vs) c→Below B w w' → R (.returned c) w') →
  LeavesInM F n P fn a.tmps R ds .returning w:=by
 intro ds
 induction ds with
 | nil =>
  intro a w hd hR _ hk
  obtain ⟨vs,c,k1,k2,k3⟩:=EG (P:=P) hR K hK
  have e:({ a with defers:=[] }:Act)=a:=by cases a;grind
  exact ⟨c,k2,hk vs c w k1 (by grind) k3 (Below.refl _ _)⟩
 | cons d ds ih =>
  intro a w hd hR hB hk
  obtain ⟨r,rfl,hr⟩:=hB d (by simp)
  obtain ⟨r',e,hr'⟩:=(hR.fr 0 (by simp) (by simp)).def_ { target:=.collected r,args:=#[] } (by grind)
  cases e
  have e2:a={ a with defers:={ target:=.collected r,args:=#[] }::ds }:=by cases a;grind
  rw [e2] at hR
  have hR2:=hR.Tn hr' (.deferred none)
  refine ⟨by simp,.inl ⟨r,_,rfl,run_takeDeferred hr',?_⟩⟩
  exact ih { a with defers:=ds } _ rfl hR2 (fun d hd=>hB d (by grind)) (fun vs c w' k1 k2 k3 k4=>hk vs c w' k1 k2 k3 ((nX hr).trans k4))
theorem dK {r:Option Nat} {f:FuncId} {vs:Array Value} {R:Ending→World→Prop} (h:CallsIn (Wd none) n P f vs w R):CallsIn (Wd r) n P f vs w R:=h
def lpD (l:List (Name×Lp)):List (Name×Nat):=l.map fun x=>(x.1,x.2.depth)
theorem su:∀ {l l' : List (Name×Lp)},lpD l=lpD l' → ∀ {nm:Name} {q:Lp},aj nm l=some q→∃ q',aj nm l' = some q' ∧ q'.depth=q.depth:=by
 intro l
 induction l with
 | nil=>grind [aj]
 | cons x l ih =>
  intro l' e nm q h
  cases l' with
  | nil=>simp [lpD] at e
  | cons y l' =>
   simp only [lpD,List.map_cons,List.cons.injEq,Prod.mk.injEq] at e
   obtain ⟨x1,x2⟩:=x
   obtain ⟨y1,y2⟩:=y
   simp only at e
   simp only [aj] at h ⊢
   rw [← e.1.1]
   split at h
   ·grind
   ·rename_i e'
    rw [if_neg e'];exact ih e.2 h
def Left (k:V→Sa→Prop) (P:Program) (rs:List ResultVar) (s0:Sa) (e:Ex) (s:Sa):Prop :=
 (match e with | .exit _=>False | _=>True)∧s.sv.length=s0.sv.length+1∧lpD s.lp=lpD s0.lp∧G7 P s rs fun vs=>k (iU vs) s.pop
end Go.Ab
namespace Go.Ab
open Go Go.RowKit
variable {P:Program} {w:World} {n:Nat} {Mo:Cells} {m:Mp} {s:Sa} {as:List Act} {p:Name}
mutual
def D.wf:D→Prop
 | .v x=>dJ x
 | .agg cs=>D.wfL cs
 | .sl xs=>xs.length≤9223372036854775807∧D.wfL xs
def D.wfL:List D→Prop
 | []=>True
 | x::xs=>x.wf∧D.wfL xs
end
theorem G9 {xs:List D}:D.wfL xs↔∀ i (hi:i<xs.length),xs[i].wf:=by
 induction xs with
 | nil=>simp [D.wfL]
 | cons x xs ih =>
  simp only [D.wfL,ih]
  constructor
  ·grind
  ·intro h
   exact ⟨h 0 (by simp),fun i hi=>h (i+1) (by grind)⟩
theorem Tq {x:D} (h:∀ j (hj:j<x.cells.length),(x.cells[j]).wf):x.wf:=by
 cases x with
 | v c=>exact h 0 (by simp [D.cells])
 | agg cs=>simp only [D.wf];exact G9.2 h
 | sl xs=>exact h 0 (by simp [D.cells])
theorem fD.wf {M:Cells} {x:D} {c:Value} (h:fD w M x c):x.wf:=by
 induction h with
 | v h=>exact h
 | agg hs hl _ ih=>grind [D.wf,G9]
 | sl sz b off cv hc hm ha hsz hcell _ ih =>
  grind [D.wf,G9,Tq]
def kR (P:Program) (f:FuncId) (ds rs:List D):Prop :=
 ∀ (M:Cells) (w:World) (n:Nat) (vs:Array Value),(∀ b o,M b o→b<w.heap.size)→vs.size=ds.length→(∀ i (hi:i<ds.length),fD w M ds[i] (vs.getD i undef)) →
  CallsIn (Wd none) n P f vs w fun e w'=>∃ c,e = .returned c∧Below w.heap.size w w' ∧ ∀ m,aU w' M m (iU (rs.map .d)) c
def s0 (n:Nat) (ds:List D):Sa:={ rd:=none,n:=n,ts:=xk 0 (ds.map .d),sv:=[],bx:=[],lp:=[],ow:=[],vc:=[] }
def Out (P:Program) (rs:List ResultVar) (out:List D) (e:Ex) (s:Sa):Prop :=
 (match e with | .exit _=>False | _=>True)∧G7 P s rs fun vs=>eX V.toD vs=some out
theorem EH {M:Cells} {vs:List V} {ds:List D} {c:Value} (h:aU w M m (iU vs) c) (hd:eX V.toD vs=some ds):∀ m',aU w M m' (iU (ds.map .d)) c:=by
 obtain ⟨h1,h2⟩:=fF hd
 intro m'
 by_cases hl:vs.length=1
 ·obtain ⟨v,rfl⟩:=List.length_eq_one_iff.1 hl
  obtain ⟨x,rfl⟩:=List.length_eq_one_iff.1 (h1.trans hl)
  exact .d (aU.toD h (h2 0 (by simp) (by simp)))
 ·have e1:iU vs = .tup vs:=by
   unfold iU;split
   ·grind
   rfl
  have e2:iU (ds.map .d) = .tup (ds.map .d):=by
   unfold iU;split
   ·rename_i v hv;have:=congrArg List.length hv;grind
   rfl
  rw [e1] at h
  rw [e2]
  obtain ⟨cs,rfl,hs,hr⟩:=h.BM
  refine .tup (by grind) (fun i hi=>?_)
  simp only [List.length_map] at hi
  simp only [List.getElem_map]
  exact .d ((hr i (by omega)).toD (h2 i (by omega) hi))
theorem EI {M:Cells} {ds:List D} {vs:Array Value} (nt:Nat) (hlt:∀ b o,M b o→b<w.heap.size) (hs:vs.size=ds.length) (hr:∀ i (hi:i<ds.length),fD w M ds[i] (vs.getD i undef)) (hle:ds.length≤nt) :
  Rel M m (s0 nt ds) [{ tmps:=vs++Array.replicate (nt - vs.size) undef,defers:=[] }] w:=by
 have htot:∀ b o,Tot M ([]:List (Name×V)) [] m b o→M b o:=fun b o h=>by
  rcases h with h | ⟨nm,c,hn,_⟩ | ⟨i,hi,_⟩
  ·grind
  ·simp [aj] at hn
  grind
 refine ⟨rfl,?_,?_,?_,?_,?_,?_,?_,?_,?_,hlt,by simp [marks],?_,fun n c hn=>by simp [s0,aj] at hn⟩
 ·intro i hi hi'
  have:i=0:=by grind
  subst this
  refine ⟨by simp [s0,hs];omega,fun t=>?_,fun d hd=>by grind⟩
  simp only [s0,List.getElem_cons_zero]
  rw [Ak]
  split
  ·rename_i hx
   simp only [List.length_map] at hx
   have:=hr t (by omega)
   simp only [Nat.sub_zero,List.getElem_map]
   refine .d (fD.mono (fun b o c hc hm=>⟨hc,fun ht=>hm (htot b o ht)⟩) ?_)
   rw [Array.getD_eq_getD_getElem?] at this ⊢
   grind
  ·exact .dead
 all_goals grind [s0,aj]
theorem pO {f:FuncId} {args:List V} {ds rs:List D} {k:V→Sa→Prop} (h:kR P f ds rs) (hd:eX V.toD args=some ds) (hk:k (iU (rs.map .d)) s):nJ P p f args s k:=by
 intro Mo m as w n vs r hR hargs
 obtain ⟨h1,h2⟩:=fF hd
 have hlt:∀ b o,Tot Mo s.bx s.ow m b o→b<w.heap.size:=fun b o ht=>Oa hR ht
 refine dK ((h _ w n vs hlt (by rw [hargs.1];grind) (fun i hi=>(hargs.2 i (by omega)).toD (h2 i (by omega) hi))).mono ?_)
 rintro e w' ⟨c,rfl,hb,hv⟩
 exact ⟨c,_,m,s,rfl,hk,hR.below hb,hv m,Step.of_below hb,rfl⟩
def Wk (s s' : Sa):Prop:=∀ Mo m as w,Rel Mo m s as w→∃ m',Rel Mo m' s' as w∧Step m s w m' s' w∧bf m' s' = bf m s
theorem Wk.refl:Wk s s:=fun _ m _ _ hR=>⟨m,hR,Step.refl _ _ _,rfl⟩
theorem TC.weaken {c:Code} {s' : Sa} {Q:Ex→Sa→Prop} (hw:Wk s s') (h:TC P p c s' Q):TC P p c s Q:=fun Mo m a sv w n hR=>by
 obtain ⟨m',hR',hst,hrd⟩:=hw Mo m _ w hR
 have:=h Mo m' a sv w n hR'
 rw [hrd] at this
 exact wpIn_mono this (fun e a2 w2 hp=>hp.step hst hrd .refl)
theorem Wk.of {s' : Sa} (hrd:s'.rd=s.rd) (hn:s'.n=s.n) (hlp:s'.lp=s.lp) (hts:∀ t,lkT t s'.ts=lkT t s.ts∨lkT t s'.ts = .dead)
  (hsv:s'.sv=s.sv) (hbx:∀ nm c,aj nm s'.bx=some c→aj nm s.bx=some c) (how:∀ i∈s'.ow,i∈s.ow) (hvc:∀ n c,aj n s'.vc=some c→aj n s.vc=some c∧(n∈s.ow→n∈s'.ow)):Wk s s':=by
 intro Mo m as w hR
 have hmut:∀ b o,Mut s'.bx s'.ow m b o→Mut s.bx s.ow m b o:=by
  rintro b o (⟨nm,c,h1,h2⟩ | ⟨i,h1,h2⟩)
  ·exact .inl ⟨nm,c,hbx nm c h1,h2⟩
  ·exact .inr ⟨i,how i h1,h2⟩
 have hst:lC w (Tot Mo s.bx s.ow m) w (Tot Mo s'.bx s'.ow m):=fun b o c hc hm=>⟨hc,fun ht=>hm (ht.imp id (hmut b o))⟩
 refine ⟨m,⟨by rw [hsv];exact hR.len,?_,?_,?_,?_,?_,?_,?_,?_,?_,hR.mo,hR.mks,?_,fun n c hn=>⟨(hvc n c hn).2 (hR.vec n c (hvc n c hn).1).1,(hR.vec n c (hvc n c hn).1).2.mono hst rfl rfl (fun _ _ _ _ _ hv=>hv) (fun b c T hc=>⟨c,hc,rfl⟩)⟩⟩,⟨.of_below (Below.refl _ _),fun b o _ h=>hmut b o h,fun b _ h=>by grind,hrd,by grind,fun _ _=>rfl⟩,by simp only [bf,hrd]⟩
 ·intro i hi hi'
  cases i with
  | zero =>
   have h0:=hR.fr 0 (by simp) hi'
   refine ⟨by simp only [List.getElem_cons_zero,hn];exact h0.size,fun t=>?_,h0.def_⟩
   simp only [List.getElem_cons_zero]
   rcases hts t with h | h
   ·rw [h];exact hst.kJ (h0.ts t)
   ·rw [h];exact .dead
  | succ i =>
   have h0:=hR.fr (i+1) (by grind) hi'
   have e:(({ rd:=s'.rd,n:=s'.n,ts:=s'.ts }:Fr)::s'.sv)[i+1]=(({ rd:=s.rd,n:=s.n,ts:=s.ts }:Fr)::s.sv)[i+1]'(by grind):=by grind
   rw [e];exact h0.GN hst
 ·intro nm c h
  obtain ⟨cs,T,hb⟩:=hR.box nm c (hbx nm c h)
  exact ⟨cs,T,hb.heap,hb.size,hb.leafs,fun i hi=>hst.kJ (hb.rep i hi)⟩
 ·exact fun a b c d h1 h2 e=>hR.inj a b c d (hbx _ _ h1) (hbx _ _ h2) e
 ·exact fun i hi hn=>hR.oww i (how i hi) hn
 ·exact fun i hi j hj h1 h2 e=>hR.owx i (how i hi) j (how j hj) h1 h2 e
 ·exact fun i hi hn nm c h=>hR.owb i (how i hi) hn nm c (hbx nm c h)
 ·intro l q hl
  rw [hlp] at hl;exact hR.lps l q hl
 ·intro l q hl
  rw [hlp] at hl;exact hR.dep l q hl
 ·intro l q l' q' h1 h2 e
  rw [hlp] at h1 h2;exact hR.lpi l q l' q' h1 h2 e
 ·exact fun i hi hn=>hR.owm i (how i hi) hn
theorem EJ {F:Fence} {Q:Exit→Act→World→Prop} {c:Code} {ι:Type} (I:ι→Act→World→Prop) (μ:ι→Nat)
  (round:∀ i a w,I i a w→c.wpIn F n P (Exit.then (fun a' w'=>∃ j,I j a' w' ∧ μ j<μ i) Q) a w):∀ i a w,I i a w→(Code.loop c).wpIn F n P Q a w:=by
 intro i0 a0 w0 h0 b k cs hro hb hr
 have key:∀ q i a w,μ i=q→I i a w →
   ∃ e a' w',Q e a' w' ∧ ArrivesIn (Machine.fenced P F) P (lone (b.atR a (.code c :: .inLoop c::k)) cs w) b k cs e a' w':=by
  intro q
  induction q using Nat.strongRecOn with
  | _ q ih =>
   intro i a w hq hI
   obtain ⟨e,a1,w1,h1,harr⟩:=round i a w hI b (.inLoop c::k) cs hro hb hr
   have pass:∀ e,e ≠ .normal→Exit.then (fun a' w'=>∃ j,I j a' w' ∧ μ j<μ i) Q e a1 w1→ArrivesIn (Machine.fenced P F) P (lone (b.atR a (.code c :: .inLoop c::k)) cs w) b (.inLoop c::k) cs e a1 w1 →
     ∃ e a' w',Q e a' w' ∧ ArrivesIn (Machine.fenced P F) P (lone (b.atR a (.code c :: .inLoop c::k)) cs w) b k cs e a' w':=fun e hne hx hy =>
    ⟨e,a1,w1,by cases e <;> first | exact absurd rfl hne | exact hx,.pass (x:=.inLoop c) rfl (fun _ _=>.inl hne) hy⟩
   cases e with
   | normal =>
    obtain ⟨j,hj,hlt⟩:=h1
    obtain ⟨e2,a2,w2,h2,harr2⟩:=ih (μ j) (hq ▸ hlt) j a1 w1 rfl hj
    exact ⟨e2,a2,w2,h2,.of_steps (StepsIn.trans harr (.one (fenced_calm hb hr rfl) stepR_inLoop)) harr2⟩
   | _=>grind
 obtain ⟨e,a',w',hq,harr⟩:=key _ i0 a0 w0 rfl h0
 exact ⟨e,a',w',hq,.of_steps (.one (fenced_calm hb hr rfl) stepR_loop) harr⟩
end Go.Ab
namespace Go.Ab
open Go Go.RowKit
variable {P:Program} {s:Sa} {p:Name}
theorem WG {ts ts' : List (Nat×V)} (h:∀ x∈ts',lkT x.1 ts=x.2) (t:Nat):lkT t ts' = lkT t ts∨lkT t ts' = .dead:=by
 induction ts' with
 | nil=>right;rfl
 | cons y l ih =>
  grind [lkT]
theorem Oo {bx bx' : List (Name×V)} (h:∀ x∈bx',aj x.1 bx=some x.2) (nm:Name) (c:V) (hl:aj nm bx' = some c):aj nm bx=some c:=by
 have:=h _ (ji hl);grind
theorem Wk.lists {s' : Sa} (hrd:s'.rd=s.rd) (hn:s'.n=s.n) (hlp:s'.lp=s.lp) (hts:∀ x∈s'.ts,lkT x.1 s.ts=x.2)
  (hsv:s'.sv=s.sv) (hbx:∀ x∈s'.bx,aj x.1 s.bx=some x.2) (how:∀ i∈s'.ow,i∈s.ow) (hvc:∀ n c,aj n s'.vc=some c→aj n s.vc=some c∧(n∈s.ow→n∈s'.ow)):Wk s s' :=
 Wk.of hrd hn hlp (WG hts) hsv (Oo hbx) how hvc
end Go.Ab
namespace Go.Ab
open Go Go.RowKit
variable {P:Program} {w:World} {m:Mp} {Mo:Cells} {s:Sa} {as:List Act}
mutual
def V.soft (i:Name) (sz:Nat) (xs:List D):V→V
 | .own j z ys=>if j=i then .d (.sl ys) else .own j z ys
 | .vsl n=>if n=i then .own i sz xs else .vsl n
 | .vpt n o=>if n=i then .dead else .vpt n o
 | .fn f c=>.fn f (V.jk i sz xs c)
 | .agg c=>.agg (V.jk i sz xs c)
 | .tup c=>.tup (V.jk i sz xs c)
 | .d x=>.d x
 | .nil=>.nil
 | .ptr n o=>.ptr n o
 | .ref c=>.ref c
 | .yld l=>.yld l
 | .mref n=>.mref n
 | .mpc k l=>.mpc k l
 | .dead=>.dead
def V.jk (i:Name) (sz:Nat) (xs:List D):List V→List V
 | []=>[]
 | v::vs=>v.soft i sz xs::V.jk i sz xs vs
end
theorem V.gu (i:Name) (sz:Nat) (xs:List D) (vs:List V):V.jk i sz xs vs=vs.map (V.soft i sz xs):=by
 induction vs with
 | nil=>rfl
 | cons v vs ih=>simp [V.jk,ih]
theorem V.pR (i:Name) (sz:Nat) (xs:List D) (v:V):(v.soft i sz xs).cells=v.cells.map (V.soft i sz xs):=by
 cases v with
 | d x=>cases x <;> simp [V.soft,V.cells,List.map_map,Function.comp_def]
 | own j sz xs=>grind [V.soft,V.cells]
 | vsl j=>grind [V.soft,V.cells]
 | vpt j o=>grind [V.soft,V.cells]
 | agg c=>simp [V.soft,V.cells,V.gu]
 | _=>rfl
def Sa.soft (s:Sa) (i:Name):Sa:=match aj i s.vc with
 | some c=>{ s with ts:=Ef (V.soft i c.1 c.2) s.ts,sv:=s.sv.map (fun f=>{ f with ts:=Ef (V.soft i c.1 c.2) f.ts }),bx:=s.bx.map (fun x=>(x.1,x.2.soft i c.1 c.2)),vc:=s.vc.filter (fun x=>x.1 != i) }
 | none=>s
def spareOf (m:Mp) (i:Name) (sz:Nat) (xs:List D):Nat×Nat×Nat:=if (m.vl i).2.2=0 then (0,0,0) else match (m.vl i).1 with
 | some a=>(a.block,a.off+xs.length * sz,a.off+(m.vl i).2.2 * sz)
 | none=>(0,0,0)
def Mp.soft (m:Mp) (i:Name) (sz:Nat) (xs:List D):Mp:={ m with ow:=fun j=>if j=i then spareOf m i sz xs else m.ow j }
theorem aU.soft {M M' : Cells} {i:Name} {sz:Nat} {xs:List D} {v:V} {c:Value} (hs:lC w M w M')
  (hi:aU w M' (m.soft i sz xs) (.own i sz xs) (.slice (m.vl i).1 (m.vl i).2.1 (m.vl i).2.2)) (h:aU w M m v c):aU w M' (m.soft i sz xs) (v.soft i sz xs) c:=by
 induction h with
 | d h=>exact .d (h.mono hs)
 | nil=>exact .nil
 | own h hsz hsp =>
  simp only [V.soft];split
  ·exact .d (h.mono hs)
  ·rename_i hne
   exact .own (h.mono hs) hsz (iT hsp (by simp [Mp.soft,hne]) (fun _ _ h=>h))
 | ptr=>exact .ptr
 | mref=>exact .mref
 | ref b off cv hcell hrep=>exact .ref b off cv (fun j hj=>⟨(hs _ _ _ (hcell j hj).1 (hcell j hj).2.2).1,(hcell j hj).2.1,(hs _ _ _ (hcell j hj).1 (hcell j hj).2.2).2⟩) (fun j hj=>(hrep j hj).mono hs)
 | fn hl _ ih =>
  simp only [V.soft,V.gu]
  exact .fn (by grind) (fun k hk=>by grind)
 | yld=>exact .yld
 | agg hl hlf _ ih =>
  simp only [V.soft,V.gu]
  exact .agg (by grind) (fun k hk=>hlf k (by grind)) (fun k hk=>by grind)
 | tup hl _ ih =>
  simp only [V.soft,V.gu]
  exact .tup (by grind) (fun k hk=>by grind)
 | vsl =>
  simp only [V.soft];split
  ·grind
  ·exact .vsl
 | vpt h =>
  simp only [V.soft];split
  ·exact .dead
  ·exact .vpt h
 | dead=>exact .dead
theorem jA.soft {b:Nat} {c:V} {cs:Array Value} {T:TypeId} {i:Name} {sz:Nat} {xs:List D} (h:jA w b c cs T):jA w b (c.soft i sz xs) cs T:=by
 cases c <;> first | exact h | (simp only [V.soft];exact h) | (simp only [V.soft];split <;> exact h)
theorem Rel.Zh (h:Rel Mo m s as w) (i:Name) {sz:Nat} {xs:List D} (hc:aj i s.vc=some (sz,xs)):∃ m',Rel Mo m' (s.soft i) as w∧Step m s w m' (s.soft i) w∧m'.lp=m.lp ∧
  ∀ v c,aU w (Tot Mo s.bx s.ow m) m v c→aU w (Tot Mo (s.soft i).bx (s.soft i).ow m') m' (v.soft i sz xs) c:=by
 unfold Sa.soft
 simp only [hc]
 obtain ⟨hn,hv⟩:=h.vec i _ hc
 simp only at hv
 have hlen:=hv.len
 have hcap:=hv.cap
 have hmul:=Nat.mul_le_mul_right sz hcap
 have hreg:nonempty (spareOf m i sz xs)→nonempty (m.ow i)∧(spareOf m i sz xs).1=(m.ow i).1∧(spareOf m i sz xs).2.2=(m.ow i).2.2∧(m.ow i).2.1≤(spareOf m i sz xs).2.1:=by
  intro hne
  unfold spareOf at hne ⊢
  rcases hv.hd with hd | ⟨b,c,T,ha,hrow,_,_⟩
  ·grind
  grind [nonempty]
 have hmut:∀ b o,Mut (s.bx.map (fun x=>(x.1,x.2.soft i sz xs))) s.ow (m.soft i sz xs) b o→Mut s.bx s.ow m b o:=by
  rintro b o (⟨n,c,hl,e⟩ | ⟨j,hj,h1,h2,h3⟩)
  ·rw [dw] at hl
   cases hl' : aj n s.bx with
   | none=>grind
   | some c'=>exact .inl ⟨n,c',hl',e⟩
  ·by_cases e:j=i
   ·subst e
    simp only [Mp.soft,if_true] at h1 h2 h3
    obtain ⟨_,g2,g3,g4⟩:=hreg (by unfold nonempty;omega)
    exact .inr ⟨j,hj,by grind,by omega,by omega⟩
   ·simp only [Mp.soft,e,if_false] at h1 h2 h3
    exact .inr ⟨j,hj,h1,h2,h3⟩
 have hst:lC w (Tot Mo s.bx s.ow m) w (Tot Mo (s.bx.map (fun x=>(x.1,x.2.soft i sz xs))) s.ow (m.soft i sz xs)):=fun b o c hc hm=>⟨hc,fun ht=>hm (ht.imp id (hmut b o))⟩
 have hown:aU w (Tot Mo (s.bx.map (fun x=>(x.1,x.2.soft i sz xs))) s.ow (m.soft i sz xs)) (m.soft i sz xs) (.own i sz xs) (.slice (m.vl i).1 (m.vl i).2.1 (m.vl i).2.2):=by
  rw [hlen]
  have hd:=hv.hd
  refine .own ?_ hv.sz ?_
  ·rcases hd with hd | ⟨b,c,T,ha,hrow,hblk,hsz⟩
   ·have hx:xs=[]:=List.eq_nil_of_length_eq_zero (by omega)
    subst hx
    exact fD.sl (xs:=[]) (a:=(m.vl i).1) 0 0 0 (fun _ _=>undef) (by simp) (by simp) (by simp) (by simp) (by simp) (by simp)
   ·have e0:(m.vl i).1=some ⟨b,0,none⟩:=ha
    obtain ⟨o0,ho0⟩:∃ o0:Nat,o0=0:=⟨0,rfl⟩
    rw [← ho0] at e0 hrow
    have hcell:∀ k (hk:k<xs.length) j (hj:j<xs[k].cells.length),∃ v,w.cell? ⟨b,o0+k * sz+j,none⟩=some v∧leaf v=true∧fD w (Tot Mo s.bx s.ow m) (xs[k].cells)[j] v:=by
     intro k hk j hj
     have hsz':=hv.sz _ (List.getElem_mem hk)
     rw [hsz'] at hj
     have hz0:0<sz:=by omega
     have hlt:=mul_lt hk hj
     obtain ⟨v,h1,h2,h3⟩:=hv.cells (k * sz+j) (by rw [bI hv.sz];exact hlt)
     rw [hrow] at h1
     simp only at h1
     rw [← Nat.add_assoc] at h1
     refine ⟨v,h1,h2,?_⟩
     have hg:=lN hz0 hv.sz (k * sz+j)
     have e1:(k * sz+j) / sz=k:=by rw [Nat.mul_comm,Nat.mul_add_div hz0,Nat.div_eq_of_lt hj,Nat.add_zero]
     have e2:(k * sz+j) % sz=j:=by rw [Nat.mul_comm,Nat.mul_add_mod,Nat.mod_eq_of_lt hj]
     rw [e1,e2,List.getElem?_eq_getElem (by rw [bI hv.sz];exact hlt),List.getElem?_eq_getElem hk,Option.bind_some,List.getElem?_eq_getElem (by omega),Option.some.injEq] at hg
     rw [← hg];exact h3
    have hnm:∀ k (hk:k<xs.length) j (hj:j<xs[k].cells.length),¬ Tot Mo (s.bx.map (fun x=>(x.1,x.2.soft i sz xs))) s.ow (m.soft i sz xs) b (o0+k * sz+j):=by
     intro k hk j hj ht
     have hsz':=hv.sz _ (List.getElem_mem hk)
     rw [hsz'] at hj
     have hlt:=mul_lt hk hj
     have hne:nonempty (m.ow i):=by rw [hrow];simp only [nonempty];omega
     rcases ht with ht | ⟨n,c,hl,e⟩ | ⟨q,hq,h1,h2,h3⟩
     ·exact h.owm i hn hne _ (by rw [hrow];exact ht)
     ·rw [dw] at hl
      cases hl' : aj n s.bx with
      | none=>rw [hl'] at hl;cases hl
      | some c'=>exact h.owb i hn hne n c' hl' (by rw [hrow];exact e)
     ·by_cases e:q=i
      ·subst e
       have h0 : ¬ (m.vl q).2.2=0:=by omega
       simp only [Mp.soft,if_true,spareOf,ha,if_neg h0] at h2
       omega
      ·simp only [Mp.soft,e,if_false] at h1 h2 h3
       exact e (h.owx q hq i hn (by unfold nonempty;omega) hne (by rw [hrow];exact h1))
    rw [e0]
    refine fD.sl sz b o0 (fun k j=>(w.cell? ⟨b,o0+k * sz+j,none⟩).getD undef) hcap hv.mx (fun _=>rfl) (fun k hk=>hv.sz _ (List.getElem_mem hk)) (fun k hk j hj=>?_) (fun k hk j hj=>?_)
    ·obtain ⟨v,h1,h2,_⟩:=hcell k hk j hj
     rw [h1];exact ⟨rfl,h2,hnm k hk j hj⟩
    ·obtain ⟨v,h1,_,h3⟩:=hcell k hk j hj
     simp only [h1,Option.getD_some];exact h3.mono hst
  ·unfold bU
   rcases hd with hd | ⟨b,c,T,ha,hrow,hblk,hsz⟩
   ·have hx:xs=[]:=List.eq_nil_of_length_eq_zero (by omega)
    cases ha:(m.vl i).1 with
    | none=>exact ⟨hd.1,by simp [Mp.soft,spareOf,ha]⟩
    | some a=>exact .inl ⟨by rw [hx,hd.1];rfl,by simp [Mp.soft,spareOf,ha,hx,hd.1]⟩
   ·rw [ha]
    by_cases h0:(m.vl i).2.2=0
    ·exact .inl ⟨by omega,by simp [Mp.soft,spareOf,h0]⟩
    exact .inr ⟨rfl,hcap,by simp [Mp.soft,spareOf,ha,h0],c,T,hblk,by simp only;omega⟩
 have hrep:∀ v c,aU w (Tot Mo s.bx s.ow m) m v c→aU w (Tot Mo (s.bx.map (fun x=>(x.1,x.2.soft i sz xs))) s.ow (m.soft i sz xs)) (m.soft i sz xs) (v.soft i sz xs) c:=fun v c hv=>aU.soft hst hown hv
 have hbx:∀ n c,aj n (s.bx.map (fun x=>(x.1,x.2.soft i sz xs)))=some c→∃ c',aj n s.bx=some c' ∧ c=c'.soft i sz xs:=by
  intro n c hn
  rw [dw] at hn
  cases hc:aj n s.bx with
  | none=>simp [hc] at hn
  | some c'=>simp [hc] at hn;exact ⟨c',rfl,hn.symm⟩
 have how:∀ j,j≠i→(m.soft i sz xs).ow j=m.ow j:=fun j hj=>by simp [Mp.soft,hj]
 have howi:(m.soft i sz xs).ow i=spareOf m i sz xs:=by simp [Mp.soft]
 have hfr:∀ (f:Fr) (a:Act),BG w (Tot Mo s.bx s.ow m) m f a→BG w (Tot Mo (s.bx.map (fun x=>(x.1,x.2.soft i sz xs))) s.ow (m.soft i sz xs)) (m.soft i sz xs) { f with ts:=Ef (V.soft i sz xs) f.ts } a:=fun f a hf =>
  ⟨hf.size,fun t=>by rw [jh _ (by simp [V.soft])];exact hrep _ _ (hf.ts t),hf.def_⟩
 refine ⟨m.soft i sz xs,⟨by simpa using h.len,?_,?_,?_,?_,?_,?_,fun l p hl=>by
   obtain ⟨r,a,hx⟩:=h.lps l p hl
   exact ⟨r,a,hx.heap,hx.ps,hx.assign,hx.body,hx.own,hx.tmps,hx.stat⟩,h.dep,h.lpi,h.mo,h.mks,?_,?_⟩,
  ⟨.of_below (Below.refl _ _),fun b o _ hm=>hmut b o hm,fun b _ hl=>hl,rfl,by simp [List.map_map,Function.comp_def],fun _ _=>rfl⟩,rfl,hrep⟩
 ·intro k hk hk'
  have hk0:k<(({ rd:=s.rd,n:=s.n,ts:=s.ts }:Fr)::s.sv).length:=by simpa using hk
  have:=hfr _ _ (h.fr k hk0 hk')
  cases k with
  | zero=>exact this
  | succ k=>simpa using this
 ·intro n c hn'
  obtain ⟨c',hc',rfl⟩:=hbx n c hn'
  obtain ⟨cs,T,hb⟩:=h.box n c' hc'
  refine ⟨cs,T,hb.heap.soft,by rw [V.pR,List.length_map];exact hb.size,fun k hk=>hb.leafs k (by simpa [V.pR] using hk),fun k hk=>?_⟩
  have hk' : k<c'.cells.length:=by simpa [V.pR] using hk
  have e:(c'.soft i sz xs).cells[k]=(c'.cells[k]).soft i sz xs:=by simp [V.pR]
  rw [e]
  exact hrep _ _ (hb.rep k hk')
 ·intro n c n' c' hn1 hn2 e
  obtain ⟨d,hd,_⟩:=hbx n c hn1
  obtain ⟨d',hd',_⟩:=hbx n' c' hn2
  exact h.inj n d n' d' hd hd' e
 ·intro j hj hne
  by_cases e:j=i
  ·subst e
   rw [howi] at hne ⊢
   obtain ⟨g1,g2,g3,_⟩:=hreg hne
   rw [g2,g3];exact h.oww j hj g1
  ·rw [how j e] at hne ⊢; exact h.oww j hj hne
 ·intro j hj k hk h1 h2 e
  have key:∀ j,nonempty ((m.soft i sz xs).ow j)→nonempty (m.ow j)∧((m.soft i sz xs).ow j).1=(m.ow j).1:=fun j hne=>by
   by_cases e:j=i
   ·subst e;rw [howi] at hne ⊢; exact ⟨(hreg hne).1,(hreg hne).2.1⟩
   ·rw [how j e] at hne ⊢; exact ⟨hne,rfl⟩
  obtain ⟨a1,a2⟩:=key j h1
  obtain ⟨b1,b2⟩:=key k h2
  exact h.owx j hj k hk a1 b1 (by rw [← a2,← b2];exact e)
 ·intro j hj hne n c hn'
  obtain ⟨d,hd,_⟩:=hbx n c hn'
  by_cases e:j=i
  ·subst e
   rw [howi] at hne ⊢
   obtain ⟨g1,g2,_⟩:=hreg hne
   rw [g2];exact h.owb j hj g1 n d hd
  ·rw [how j e] at hne ⊢; exact h.owb j hj hne n d hd
 ·intro j hj hne o
  by_cases e:j=i
  ·subst e
   rw [howi] at hne ⊢
   obtain ⟨g1,g2,_⟩:=hreg hne
   rw [g2];exact h.owm j hj g1 o
  ·rw [how j e] at hne ⊢; exact h.owm j hj hne o
 ·intro n c hn'
  rw [dR (q:=fun j=>j != i)] at hn'
  split at hn'
  ·rename_i e
   have e:n≠i:=by simpa using e
   exact ⟨(h.vec n c hn').1,(h.vec n c hn').2.mono hst rfl (how n e) (fun _ _ _ _ _ hv=>hv) (fun b c T hc=>⟨c,hc,rfl⟩)⟩
  ·cases hn'
theorem Rel.soft (h:Rel Mo m s as w) (i:Name):∃ m',Rel Mo m' (s.soft i) as w∧Step m s w m' (s.soft i) w∧m'.lp=m.lp:=by
 cases hc:aj i s.vc with
 | none =>
  grind [Sa.soft,Step.refl]
 | some c =>
  obtain ⟨m',h1,h2,h3,_⟩:=h.Zh i (sz:=c.1) (xs:=c.2) hc
  grind
theorem WH {s:Sa} {i:Name}:(s.soft i).rd=s.rd:=by unfold Sa.soft;split <;> rfl
theorem nJ.soft {p:Name} {f:FuncId} {args:List V} {k:V→Sa→Prop} {i:Name} {sz:Nat} {xs:List D} (hc:aj i s.vc=some (sz,xs)) (h:nJ P p f (V.jk i sz xs args) (s.soft i) k):nJ P p f args s k:=by
 intro Mo m as w n vs r hR hargs
 obtain ⟨m',h1,h2,h3,h4⟩:=hR.Zh i hc
 have hrd:bf m' (s.soft i)=bf m s:=by simp only [bf,WH,h3]
 refine (h Mo m' as w n vs r h1 ⟨by rw [hargs.1,V.gu,List.length_map],fun j hj=>?_⟩).mono ?_
 ·have hj' : j<args.length:=by grind [V.gu]
  have e:(V.jk i sz xs args)[j]=(args[j]).soft i sz xs:=by simp [V.gu]
  rw [e]
  exact h4 _ _ (hargs.2 j hj')
 ·rintro e w' ⟨c,v,m2,s2,rfl,k1,k2,k3,k4,k5⟩
  exact ⟨c,v,m2,s2,rfl,k1,k2,k3,h2.trans k4,k5.trans hrd⟩
theorem He (s:Sa) (i:Name):Wk s (s.soft i):=fun Mo m as w hR=>by
 obtain ⟨m',h1,h2,h3⟩:=hR.soft i
 grind [Sa.soft,bf]
end Go.Ab
namespace Go.Ab
open Go Go.RowKit
variable {P:Program} {w w' : World} {m:Mp} {Mo:Cells} {s:Sa} {as:List Act} {p:Name}
theorem Rel.Vu (h:Rel Mo m s as w) {n:Name} {c:List V} {off:Nat} {v v0:V} (hn:aj n s.bx=some (.agg c)) (h0:c[off]? = some v0) (hv:∀ x,aU w (Tot Mo s.bx s.ow m) m v0 x→aU w (Tot Mo s.bx s.ow m) m v x) :
  Rel Mo m { s with bx:=cO n (.agg (c.set off v)) s.bx } as w∧Step m s w m { s with bx:=cO n (.agg (c.set off v)) s.bx } w:=by
 have hin:∀ k d,aj k (cO n (.agg (c.set off v)) s.bx)=some d→∃ d',aj k s.bx=some d':=fun k d hk=>by
  grind [mJ]
 have hmut:∀ b o,Mut (cO n (.agg (c.set off v)) s.bx) s.ow m b o→Mut s.bx s.ow m b o:=by
  rintro b o (⟨nm,d,h1,h2⟩ | h1)
  ·obtain ⟨d',h3⟩:=hin nm d h1;exact .inl ⟨nm,d',h3,h2⟩
  ·exact .inr h1
 have hst:lC w (Tot Mo s.bx s.ow m) w (Tot Mo (cO n (.agg (c.set off v)) s.bx) s.ow m):=fun b o x hx hm=>⟨hx,fun ht=>hm (ht.imp id (hmut b o))⟩
 have hall:∀ x:V,(∀ n∈x.bxs,m.bx n=m.bx n)∧(∀ i∈x.ows,∀ sz y,bU w m i sz y→bU w m i sz y)∧(∀ l∈x.lps,m.lp l=m.lp l):=fun x=>⟨fun _ _=>rfl,fun _ _ _ _ hs=>hs,fun _ _=>rfl⟩
 have mono:∀ {u:V} {x:Value},aU w (Tot Mo s.bx s.ow m) m u x→aU w (Tot Mo (cO n (.agg (c.set off v)) s.bx) s.ow m) m u x:=fun hu=>hu.mono hst (fun _ _=>rfl) (fun _ _ _ _ hs=>hs) (fun _ _=>rfl)
 refine ⟨h.zI (s':={ s with bx:=cO n (.agg (c.set off v)) s.bx }) rfl rfl rfl rfl rfl hst ⟨fun t=>hall _,fun g hg t=>hall _,fun n d hd=>hall _⟩ (Nat.le_refl _) (fun _ _ ho _=>ho) (fun _ _ _=>rfl) ?_ ?_ h.oww h.owx ?_ h.owm ?_,
  ⟨.of_below (Below.refl _ _),fun b o _ hx=>hmut b o hx,fun b _ hl=>hl,rfl,rfl,fun _ _=>rfl⟩⟩
 ·intro k d hk
  rcases mJ hk with ⟨rfl,rfl⟩ | ⟨_,hk⟩
  ·obtain ⟨cs,T,hb⟩:=h.box _ _ hn
   have hlen:(V.agg (c.set off v)).cells.length=(V.agg c).cells.length:=by simp [V.cells]
   refine ⟨cs,T,.mk (hb.heap.cells rfl) rfl,by rw [hb.size,hlen],fun i hi=>hb.leafs i (by grind),fun i hi=>?_⟩
   have hi' : i<(V.agg c).cells.length:=by grind
   have hr:=hb.rep i hi'
   grind [V.cells]
  ·obtain ⟨cs,T,hb⟩:=h.box k d hk
   exact ⟨cs,T,hb.heap,hb.size,hb.leafs,fun i hi=>mono (hb.rep i hi)⟩
 ·intro a b a' b' h1 h2 e
  obtain ⟨d1,h3⟩:=hin _ _ h1
  obtain ⟨d2,h4⟩:=hin _ _ h2
  exact h.inj a d1 a' d2 h3 h4 e
 ·intro i hi hni k d hk
  obtain ⟨d',hk'⟩:=hin k d hk
  exact h.owb i hi hni k d' hk'
 ·intro k e hk
  obtain ⟨g1,g2⟩:=h.vec k e hk
  exact ⟨g1,g2.mono hst rfl rfl (fun _ _ _ _ _ hv=>hv) (fun b c T hc=>⟨c,hc,rfl⟩)⟩
def Sa.dD (s:Sa) (n:Name) (off:Nat) (i:Name) (sz:Nat):Sa:={ s.strip i with ow:=i::(s.strip i).ow,bx:=match aj n s.bx with
 | some (.agg c)=>cO n (.agg ((V.stripL i c).set off (.own i sz []))) (s.strip i).bx
 | _=>(s.strip i).bx }
theorem fK {i:Name}:∀ {c:List V} {k:Nat},(V.stripL i c)[k]? = (c[k]?).map (V.strip i)
 | [],k=>by rfl
 | v::c,0=>by rfl
 | v::c,k+1=>by simp [V.stripL,fK (c:=c) (k:=k)]
theorem EK {n:Name} {off:Nat} {i:Name} {sz:Nat} {c:List V} (hn:aj n s.bx=some (.agg c)) (h0:c[off]? = some .nil):Wk s (s.dD n off i sz):=fun Mo m as w hR=>by
 obtain ⟨m',r1,r2,r3,r4,r5,r6,r7⟩:=hR.claim (aU.nil) i (some sz)
 simp only [Sa.claim] at r1 r2 r3 r6 r7
 have hb:aj n (s.strip i).bx=some (.agg (V.stripL i c)):=by
  simp only [Sa.strip,dw,hn,Option.map_some,V.strip]
 have hc:(V.stripL i c)[off]? = some .nil:=by rw [fK,h0];rfl
 obtain ⟨q1,q2⟩:=r1.Vu (v:=.own i sz []) hb hc (fun x hx=>by cases hx;grind)
 have e:s.dD n off i sz={ ({ s.strip i with ow:=i::(s.strip i).ow }:Sa) with bx:=cO n (.agg ((V.stripL i c).set off (.own i sz []))) (s.strip i).bx }:=by
  simp only [Sa.dD,hn]
 rw [e]
 exact ⟨m',q1,r3.trans q2,by simp only [bf,r5];rfl⟩
def Sa.dX (s:Sa) (n:Name) (off:Nat) (i:Name) (sz:Nat):Sa:={ s.strip i with ow:=i::(s.strip i).ow,vc:=(i,(sz,[]))::(s.strip i).vc,bx:=match aj n s.bx with
 | some (.agg c)=>cO n (.agg ((V.stripL i c).set off (.vsl i))) (s.strip i).bx
 | _=>(s.strip i).bx }
theorem Hf {n:Name} {off:Nat} {i:Name} {sz:Nat} {c:List V} (hn:aj n s.bx=some (.agg c)) (h0:c[off]? = some .nil):Wk s (s.dX n off i sz):=fun Mo m as w hR=>by
 have h1:=(hR.strip i).own i (0,0,0) Sa.BI (Sa.ig s i) (fun hn=>absurd hn (by simp [nonempty])) (fun b o c hcell hm=>⟨hcell,fun hx=>hm (rO hx)⟩)
 obtain ⟨m1,hm1⟩:∃ m1:Mp,m1={ m with ow:=fun j=>if j=i then (0,0,0) else m.ow j }:=⟨_,rfl⟩
 rw [← hm1] at h1
 have hst1:Step m s w m1 { s.strip i with ow:=i::(s.strip i).ow } w:=by
  refine ⟨.of_below (Below.refl _ _),fun b o _ hm=>?_,fun b _ hl=>?_,rfl,by simp [Sa.strip,List.map_map,Function.comp_def],fun _ _=>by rw [hm1]⟩
  ·rw [hm1] at hm
   have:=rO (Mo:=fun _ _=>False) (.inr hm)
   rcases this with h0 | h0
   ·grind
   ·exact nU h0
  ·rw [hm1] at hl;exact hl
 have hvc:aj i (s.strip i).vc=none:=by
  simp only [Sa.strip]
  rw [dR (q:=fun j=>j != i)];simp
 have h2:=h1.Vr i (none,0,0) sz [] ⟨(Sa.lT s i).ts,(Sa.lT s i).sv,(Sa.lT s i).bx⟩ hvc List.mem_cons_self ⟨.inl ⟨by simp,by simp_all⟩,by simp,by simp,by simp,by simp,by simp,fun j hj=>by simp [bg] at hj⟩
 have hst2:Step m1 { s.strip i with ow:=i::(s.strip i).ow } w { m1 with vl:=fun j=>if j=i then (none,0,0) else m1.vl j } { s.strip i with ow:=i::(s.strip i).ow,vc:=(i,(sz,[]))::(s.strip i).vc } w :=
  ⟨.of_below (Below.refl _ _),fun b o _ h=>h,fun b _ h=>h,rfl,rfl,fun _ _=>rfl⟩
 have hb:aj n (s.strip i).bx=some (.agg (V.stripL i c)):=by
  simp only [Sa.strip,dw,hn,Option.map_some,V.strip]
 have hc:(V.stripL i c)[off]? = some .nil:=by rw [fK,h0];rfl
 obtain ⟨q1,q2⟩:=h2.Vu (v:=.vsl i) hb hc (fun x hx=>by
  cases hx
  have:=@aU.vsl w (Tot Mo (s.strip i).bx (i::(s.strip i).ow) { m1 with vl:=fun j=>if j=i then (none,0,0) else m1.vl j }) { m1 with vl:=fun j=>if j=i then (none,0,0) else m1.vl j } i
  grind)
 have e:s.dX n off i sz={ ({ s.strip i with ow:=i::(s.strip i).ow,vc:=(i,(sz,[]))::(s.strip i).vc }:Sa) with bx:=cO n (.agg ((V.stripL i c).set off (.vsl i))) (s.strip i).bx }:=by
  simp only [Sa.dX,hn]
 rw [e]
 exact ⟨_,q1,(hst1.trans hst2).trans q2,by simp only [bf,hm1];rfl⟩
end Go.Ab
namespace Go.Ab
open Go Go.RowKit
variable {P:Program} {w w' : World} {m:Mp} {Mo:Cells} {s:Sa} {as:List Act} {p:Name}
theorem Rel.Zi (h:Rel Mo m s as w) {n:Name} {c:Nat×List D} (hc:aj n s.vc=some c) {ys:List D}
  (k1:w'.os=w.os∧w'.tape=w.tape∧w'.output=w.output∧w.heap.size≤w'.heap.size)
  (k2:∀ b,b<w.heap.size→(nonempty (m.ow n)→b≠(m.ow n).1)→w'.heap[b]? = w.heap[b]?)
  (k3:nonempty (m.ow n)→∀ c T,w.heap[(m.ow n).1]? = some (.cells c T (0,0))→∃ c',w'.heap[(m.ow n).1]? = some (.cells c' T (0,0))∧c'.size=c.size∧∀ o,(o<(m.ow n).2.1∨(m.ow n).2.2≤o)→c'[o]? = c[o]?)
  (hvec:uh w' (Tot Mo s.bx s.ow m) m n c.1 ys) :
  Rel Mo m { s with vc:=cO n (c.1,ys) s.vc } as w' ∧ Step m s w m { s with vc:=cO n (c.1,ys) s.vc } w':=by
 obtain ⟨kos,ktape,kout,ksize⟩:=k1
 have hn:=(h.vec n c hc).1
 have blk:∀ (b:Nat) (c:Array Value) (T:TypeId) (f:Nat×Nat),w.heap[b]? = some (.cells c T f)→∃ c',w'.heap[b]? = some (.cells c' T f)∧c'.size=c.size∧∀ o,¬ Mut s.bx s.ow m b o→c'[o]? = c[o]?:=by
  intro b c T f hb
  have hlt:=(Array.getElem?_eq_some_iff.1 hb).1
  by_cases hne:nonempty (m.ow n)∧b=(m.ow n).1
  ·obtain ⟨hne,rfl⟩:=hne
   obtain ⟨c0,T0,h0,_⟩:=h.oww n hn hne
   rw [h0] at hb;cases hb
   obtain ⟨c',h1,h2,h3⟩:=k3 hne _ _ h0
   refine ⟨c',h1,h2,fun o ho=>h3 o ?_⟩
   by_cases hin:(m.ow n).2.1≤o∧o<(m.ow n).2.2
   ·exact absurd (.inr ⟨n,hn,rfl,hin.1,hin.2⟩) ho
   grind
  grind
 have hsh:Shape w w':=fun b c T hb=>by
  grind
 have hst:lC w (Tot Mo s.bx s.ow m) w' (Tot Mo s.bx s.ow m):=by
  intro b j x hx hm
  refine ⟨?_,hm⟩
  have hlt:=World.block_lt_of_cell? w _ hx
  simp only at hlt
  by_cases hne:nonempty (m.ow n)∧b=(m.ow n).1
  ·obtain ⟨hne,rfl⟩:=hne
   obtain ⟨c0,T0,h0,_⟩:=h.oww n hn hne
   grind [cell_of_block]
  grind [World.cell?_of_block]
 have hall:∀ x:V,(∀ n∈x.bxs,m.bx n=m.bx n)∧(∀ i∈x.ows,∀ sz y,bU w m i sz y→bU w' m i sz y)∧(∀ l∈x.lps,m.lp l=m.lp l):=fun x =>
  ⟨fun _ _=>rfl,fun i _ sz y hs=>dM hs rfl hsh,fun _ _=>rfl⟩
 refine ⟨h.zI (s':={ s with vc:=cO n (c.1,ys) s.vc }) rfl rfl rfl rfl rfl hst ⟨fun t=>hall _,fun g hg t=>hall _,fun n d hd=>hall _⟩
  ksize (fun b o ho hno=>?_) (fun _ _ _=>rfl) ?_ h.inj ?_ h.owx h.owb h.owm ?_,⟨kos,ktape,kout,ksize,fun b hb hC _=>?_,fun b c T f hb _=>blk b c T f hb⟩,fun _ _ _ hm=>hm,fun b _ hl=>hl,rfl,rfl,fun _ _=>rfl⟩
 ·have hlt:=(Array.getElem?_eq_some_iff.1 ho).1
  rw [k2 b hlt (fun h1 h2=>by
   obtain ⟨c,T,h3,_⟩:=h.oww n hn h1
   rw [← h2,ho] at h3;cases h3;exact hno _ _ _ rfl)];exact ho
 ·intro k d hl
  obtain ⟨ds,T',hd'⟩:=h.box k d hl
  have hw:w'.heap[m.bx k]? = w.heap[m.bx k]?:=k2 _ hd'.heap.lt (fun h1 h2=>h.owb n hn h1 k d hl h2.symm)
  exact ⟨ds,T',hd'.heap.mono (fun o ho _ _=>by rw [hw];exact ho),hd'.size,hd'.leafs,fun i hi=>(hd'.rep i hi).mono hst (fun _ _=>rfl) (fun i _ sz y hs=>dM hs rfl hsh) (fun _ _=>rfl)⟩
 ·intro i hi hni
  obtain ⟨d',T',hd',hle'⟩:=h.oww i hi hni
  obtain ⟨d'',hd'',hs'⟩:=hsh _ _ _ hd'
  exact ⟨d'',T',hd'',by omega⟩
 ·intro k e hk
  rcases mJ hk with ⟨rfl,rfl⟩ | ⟨hkn,hk⟩
  ·exact ⟨hn,hvec⟩
  ·obtain ⟨g1,g2⟩:=h.vec k e hk
   refine ⟨g1,g2.mono hst rfl rfl (fun hnk o v _ _ hcell=>?_) hsh⟩
   have hlt:=World.block_lt_of_cell? w _ hcell
   rw [World.cell?_of_block (w:=w) (k2 _ hlt (fun h1 h2=>hkn (h.owx k g1 n hn hnk h1 h2)))];exact hcell
 ·exact k2 b hb (fun hne e=>hC (m.ow n).2.1 (.inr ⟨n,hn,e.symm,Nat.le_refl _,hne⟩))
def nm0:Name:=[987654]
def sbT (sz:Nat) (xs:List D):Sa:={ rd:=none,n:=1,ts:=[(0,.vsl nm0)],sv:=[],bx:=[],lp:=[],ow:=[nm0],vc:=[(nm0,(sz,xs))] }
def Zj (sz:Nat) (ys rs:List D) (v:V) (s:Sa):Prop:=aj nm0 s.vc=some (sz,ys)∧lkT 0 s.ts = .vsl nm0∧∃ vs,v=iU vs∧eX V.toD vs=some rs
def Oq (P:Program) (f:FuncId) (sz:Nat) (xs ds ys rs:List D):Prop:=nJ P [] f (.vsl nm0::ds.map .d) (sbT sz xs) (Zj sz ys rs)
theorem Ll {f:FuncId} {n:Name} {args:List V} {sz:Nat} {xs ds ys rs:List D} {k:V→Sa→Prop} (hT:Oq P f sz xs ds ys rs) (hc:aj n s.vc=some (sz,xs)) (ha:eX V.toD args=some ds)
  (hk:k (iU (rs.map .d)) { s with vc:=cO n (sz,ys) s.vc }):nJ P p f (.vsl n::args) s k:=by
 intro Mo m as w cnt vs r hR hargs
 obtain ⟨hn,hv⟩:=hR.vec n _ hc
 simp only at hv
 obtain ⟨hsz,hrep⟩:=hargs
 simp only [List.length_cons] at hsz hrep
 have hv0:vs.getD 0 undef = .slice (m.vl n).1 (m.vl n).2.1 (m.vl n).2.2:=by
  have:=hrep 0 (by omega)
  simp only [List.getElem_cons_zero] at this
  generalize vs.getD 0 undef=c at this
  cases this;rfl
 obtain ⟨hdl,hdg⟩:=fF ha
 obtain ⟨M0,hM0⟩:∃ M0:Cells,M0=fun b o=>Tot Mo s.bx s.ow m b o∧¬ (nonempty (m.ow n)∧b=(m.ow n).1):=⟨_,rfl⟩
 obtain ⟨m0,hm0⟩:∃ m0:Mp,m0=⟨fun _=>0,fun _=>m.ow n,fun _=>0,fun _=>m.vl n⟩:=⟨_,rfl⟩
 have e1:m0.ow nm0=m.ow n:=by rw [hm0]
 have e2:m0.vl nm0=m.vl n:=by rw [hm0]
 have hst0:lC w (Tot Mo s.bx s.ow m) w (Tot M0 [] [nm0] m0):=fun b o c hcell hno=>⟨hcell,fun ht=>by
  rcases ht with ht | ⟨k,c,hk,_⟩ | ⟨i,hi,h1,h2,h3⟩
  ·grind
  ·simp [aj] at hk
  ·simp only [List.mem_singleton] at hi
   subst hi
   rw [e1] at h1 h2 h3
   exact hno (.inr (.inr ⟨n,hn,h1,h2,h3⟩))⟩
 have h0:Rel M0 m0 (sbT sz xs) [{ tmps:=#[.slice (m.vl n).1 (m.vl n).2.1 (m.vl n).2.2],defers:=[] }] w:=by
  refine ⟨rfl,?_,fun k c hk=>by simp [sbT,aj] at hk,fun k c _ _ hk=>by simp [sbT,aj] at hk,?_,?_,fun i hi hne k c hk=>by simp [sbT,aj] at hk,fun l q hl=>by simp [sbT,aj] at hl,fun l q hl=>by simp [sbT,aj] at hl,fun l q _ _ hl=>by simp [sbT,aj] at hl,?_,by simp [marks],?_,?_⟩
  ·intro i hi hi'
   have:i=0:=by grind
   subst this
   refine ⟨rfl,fun t=>?_,fun d hd=>by grind⟩
   simp only [sbT,List.getElem_cons_zero,lkT]
   split
   ·rename_i e;subst e
    have:=@aU.vsl w (Tot M0 [] [nm0] m0) m0 nm0
    simp_all
   ·exact .dead
  ·intro i hi hne
   simp only [sbT,List.mem_singleton] at hi;subst hi
   rw [e1] at hne ⊢
   exact hR.oww n hn hne
  ·grind [sbT]
  ·intro b o ho
   rw [hM0] at ho
   rcases ho.1 with ho | ⟨k,c,hk,rfl⟩ | ⟨i,hi,h1,h2,h3⟩
   ·exact hR.mo b o ho
   ·obtain ⟨cs,T,hb⟩:=hR.box k c hk
    exact hb.heap.lt
   ·obtain ⟨c,T,h4,_⟩:=hR.oww i hi (by unfold nonempty;omega)
    rw [← h1];exact (Array.getElem?_eq_some_iff.1 h4).1
  ·intro i hi hne o ho
   simp only [sbT,List.mem_singleton] at hi;subst hi
   rw [e1] at hne ho
   rw [hM0] at ho
   exact ho.2 ⟨hne,rfl⟩
  ·intro k c hk
   simp only [sbT,aj] at hk
   split at hk
   ·rename_i e;subst e;cases hk
    refine ⟨by simp [sbT],⟨by rw [e1,e2];exact hv.hd,by rw [e2];exact hv.len,by rw [e2];exact hv.cap,by rw [e2];exact hv.capm,hv.mx,hv.sz,fun j hj=>?_⟩⟩
    obtain ⟨v,g1,g2,g3⟩:=hv.cells j hj
    exact ⟨v,by rw [e1];exact g1,g2,g3.mono hst0⟩
   ·cases hk
 refine dK ((hT M0 m0 _ w cnt vs none h0 ⟨by simp;omega,fun i hi=>?_⟩).mono ?_)
 ·cases i with
  | zero =>
   simp only [List.getElem_cons_zero]
   rw [hv0,← e2];exact .vsl
  | succ i =>
   simp only [List.length_cons,List.length_map] at hi
   simp only [List.getElem_cons_succ,List.getElem_map]
   have h1:=hrep (i+1) (by omega)
   simp only [List.getElem_cons_succ] at h1
   exact .d ((h1.toD (hdg i (by omega) (by omega))).mono hst0)
 ·rintro e w1 ⟨c,v,m1,s1,he,⟨q1,q2,us,q3,q4⟩,hR1,hrep1,hstep,_⟩
  obtain ⟨hn1,hv1⟩:=hR1.vec nm0 _ q1
  simp only at hv1
  have hh:m1.vl nm0=m.vl n:=by
   have:=(hR1.fr 0 (by simp) (by simp)).ts 0
   simp only [List.getElem_cons_zero] at this
   rw [q2] at this
   have e3:(#[Value.slice (m.vl n).1 (m.vl n).2.1 (m.vl n).2.2]:Array Value).getD 0 undef = .slice (m.vl n).1 (m.vl n).2.1 (m.vl n).2.2:=rfl
   rw [e3] at this
   generalize hx:Value.slice (m.vl n).1 (m.vl n).2.1 (m.vl n).2.2=x at this
   cases this
   simp only [Value.slice.injEq] at hx
   obtain ⟨x1,x2,x3⟩:=hx
   exact (Prod.ext x1 (Prod.ext x2 x3)).symm
  have hreg:(m.vl n).2.2 * sz≠0→m1.ow nm0=m.ow n∧nonempty (m.ow n):=by
   intro hne
   have hd:=hv.hd
   have hd1:=hv1.hd
   rw [hh] at hd1
   rcases hd with hd | ⟨b,c,T,g1,g2,g3,g4⟩
   ·rw [hd.1] at hne;simp at hne
   ·rcases hd1 with hd1 | ⟨b',c',T',k1,k2,k3,k4⟩
    ·rw [hd1.1] at hne;simp at hne
    ·rw [g1] at k1;cases k1
     exact ⟨by rw [g2,k2],by rw [g2];simp only [nonempty];omega⟩
  have hreg2:nonempty (m.ow n)→m1.ow nm0=m.ow n:=by
   intro hne
   refine (hreg ?_).1
   rcases hv.hd with hd | ⟨b,c,T,g1,g2,g3,g4⟩
   ·rw [hd.2] at hne;simp [nonempty] at hne
   ·rw [g2] at hne;simp only [nonempty] at hne;omega
  have hC:∀ b,(nonempty (m.ow n)→b≠(m.ow n).1)→∀ o,¬ Mut (sbT sz xs).bx (sbT sz xs).ow m0 b o:=by
   rintro b hb o (⟨k,c,hk,_⟩ | ⟨i,hi,h1,h2,h3⟩)
   ·simp [sbT,aj] at hk
   ·simp only [sbT,List.mem_singleton] at hi
    subst hi
    rw [e1] at h1 h2 h3
    exact hb (by unfold nonempty;omega) h1.symm
  have hL:∀ b,¬ LpB (sbT sz xs).lp m0 b:=by
   rintro b ⟨l,q,hl,_⟩
   simp [sbT,aj] at hl
  have hst1:lC w1 (Tot M0 s1.bx s1.ow m1) w1 (Tot Mo s.bx s.ow m):=fun b o c hcell hno=>⟨hcell,fun ht=>by
   by_cases hb:nonempty (m.ow n)∧b=(m.ow n).1
   ·obtain ⟨hne,rfl⟩:=hb
    rcases ht with ht | ⟨k,c,hk,h1⟩ | ⟨i,hi,h1,h2,h3⟩
    ·exact hR.owm n hn hne o ht
    ·exact hR.owb n hn hne k c hk h1
    ·have:i=n:=hR.owx i hi n hn (by unfold nonempty;omega) hne h1
     subst this
     refine hno (.inr (.inr ⟨nm0,hn1,?_⟩))
     rw [hreg2 hne];exact ⟨rfl,h2,h3⟩
   ·exact hno (.inl (by rw [hM0];exact ⟨ht,hb⟩))⟩
  have hvec:uh w1 (Tot Mo s.bx s.ow m) m n sz ys:=by
   refine ⟨?_,by rw [← hh];exact hv1.len,by rw [← hh];exact hv1.cap,by rw [← hh];exact hv1.capm,hv1.mx,hv1.sz,fun j hj=>?_⟩
   ·rcases hv.hd with hd | ⟨b,c,T,g1,g2,g3,g4⟩
    ·exact .inl hd
    ·obtain ⟨c',k1,k2,_⟩:=hstep.keeps.cel b c T _ g3 (hL b)
     exact .inr ⟨b,c',T,g1,g2,k1,by omega⟩
   ·obtain ⟨v,g1,g2,g3⟩:=hv1.cells j hj
    have hne:(m.vl n).2.2 * sz≠0:=by
     rw [bI hv1.sz] at hj
     have:=Nat.mul_le_mul_right sz hv1.cap
     rw [hh] at this
     omega
    rw [(hreg hne).1] at g1
    exact ⟨v,g1,g2,g3.mono hst1⟩
  obtain ⟨r1,r2⟩:=hR.Zi (w':=w1) hc (ys:=ys) ⟨hstep.keeps.os,hstep.keeps.tape,hstep.keeps.output,hstep.keeps.size⟩ (fun b hb hne=>hstep.keeps.blk b hb (hC b hne) (hL b))
   (fun hne c T hb=>by
    obtain ⟨c',k1,k2,k3⟩:=hstep.keeps.cel _ c T _ hb (hL _)
    refine ⟨c',k1,k2,fun o ho=>k3 o ?_⟩
    rintro (⟨k,c,hk,_⟩ | ⟨i,hi,h1,h2,h3⟩)
    ·simp [sbT,aj] at hk
    ·simp only [sbT,List.mem_singleton] at hi
     subst hi
     rw [e1] at h2 h3
     omega) hvec
  refine ⟨c,_,m,_,he,hk,r1,?_,r2,rfl⟩
  rw [q3] at hrep1
  exact (EH hrep1 q4 m).mono hst1 (fun _ _=>rfl) (fun _ _ _ _ h=>h) (fun _ _=>rfl)
end Go.Ab
namespace Go.Ab
open Go Go.RowKit
variable {P:Program} {w:World} {n:Nat} {Mo:Cells} {m:Mp} {s:Sa} {sa:List Act} {p:Name}
theorem qF (b:Nat):∀ (vs:List Value) (o:Nat) (w:World),(w.setCells b o vs).drew=w.drew.setCells b o vs
 | [],_,_=>rfl
 | v::vs,o,w=>qF b vs (o+1) _
theorem jl (b:Nat):∀ (vs:List Value) (o:Nat) (w:World),w.setCells b o vs=putCells w b o vs
 | [],_,_=>rfl
 | v::vs,o,w=>jl b vs (o+1) _
theorem pU {sz:Nat}:∀ {xs:List D} (_:∀ x∈xs,x.cells.length=sz) (i:Nat),bg (xs.take i)=(bg xs).take (i * sz)
 | [],_,i=>by simp [bg]
 | x::xs,h,0=>by simp [bg]
 | x::xs,h,i+1=>by
  have hx:=h x List.mem_cons_self
  have ih:=pU (xs:=xs) (fun y hy=>h y (List.mem_cons_of_mem _ hy)) i
  have e:∀ l,bg (x::l)=x.cells++bg l:=fun l=>by simp [bg]
  rw [List.take_succ_cons,e,e,ih,List.take_append,hx,Nat.succ_mul,Nat.add_sub_cancel,List.take_of_length_le (l:=x.cells) (by rw [hx];omega)]
theorem pV {sz:Nat}:∀ {xs:List D} (_:∀ x∈xs,x.cells.length=sz) (i:Nat),bg (xs.drop i)=(bg xs).drop (i * sz)
 | [],_,i=>by simp [bg]
 | x::xs,h,0=>by grind
 | x::xs,h,i+1=>by
  have hx:=h x List.mem_cons_self
  have ih:=pV (xs:=xs) (fun y hy=>h y (List.mem_cons_of_mem _ hy)) i
  grind [bg,List.drop_append,List.drop_of_length_le]
def Lm (w:World) (M:Cells) (xs:List D) (L:List Value):Prop:=L.length=(bg xs).length∧(∀ v∈L,leaf v=true)∧∀ j (hj:j<(bg xs).length),fD w M (bg xs)[j] (L.getD j undef)
theorem Lm.app {M:Cells} {xs ys:List D} {L R:List Value} (h:Lm w M xs L) (h' : Lm w M ys R):Lm w M (xs++ys) (L++R) :=
 ⟨by rw [Ez,List.length_append,List.length_append,h.1,h'.1],fun v hv=>(List.mem_append.1 hv).elim (h.2.1 v) (h'.2.1 v),fun j hj=>vg h.1 h.2.2 h'.2.2 j hj⟩
theorem Lm.take {M:Cells} {xs:List D} {L:List Value} {sz:Nat} (h:Lm w M xs L) (hs:∀ x∈xs,x.cells.length=sz) (i:Nat):Lm w M (xs.take i) (L.take (i * sz)):=by
 refine ⟨by rw [pU hs,List.length_take,List.length_take,h.1],fun v hv=>h.2.1 v (List.mem_of_mem_take hv),fun j hj=>?_⟩
 have hj' : j<i * sz∧j<(bg xs).length:=by rw [pU hs,List.length_take] at hj;omega
 have e:(bg (xs.take i))[j]? = ((bg xs).take (i * sz))[j]?:=by rw [pU hs]
 rw [List.getElem?_eq_getElem hj,List.getElem?_take_of_lt hj'.1,List.getElem?_eq_getElem hj'.2,Option.some.injEq] at e
 rw [e,List.getD_eq_getElem?_getD,List.getElem?_take_of_lt hj'.1,← List.getD_eq_getElem?_getD]
 exact h.2.2 j hj'.2
theorem Lm.drop {M:Cells} {xs:List D} {L:List Value} {sz:Nat} (h:Lm w M xs L) (hs:∀ x∈xs,x.cells.length=sz) (i:Nat):Lm w M (xs.drop i) (L.drop (i * sz)):=by
 refine ⟨by rw [pV hs,List.length_drop,List.length_drop,h.1],fun v hv=>h.2.1 v (List.mem_of_mem_drop hv),fun j hj=>?_⟩
 have hj' : i * sz+j<(bg xs).length:=by rw [pV hs,List.length_drop] at hj;omega
 have e:(bg (xs.drop i))[j]? = ((bg xs).drop (i * sz))[j]?:=by rw [pV hs]
 rw [List.getElem?_eq_getElem hj,List.getElem?_drop,List.getElem?_eq_getElem hj',Option.some.injEq] at e
 rw [e,List.getD_eq_getElem?_getD,List.getElem?_drop,← List.getD_eq_getElem?_getD]
 exact h.2.2 _ hj'
theorem abB (b o1 o2:Nat) (L R:List Value) (c:Array Value) (T:TypeId) (hb:w.heap[b]? = some (.cells c T (0,0))) (h1:o1+L.length≤c.size) (h2:o2+R.length≤c.size) :
  ∃ c',(putCells (putCells w b o1 L) b o2 R).heap[b]? = some (.cells c' T (0,0))∧c'.size=c.size ∧
   (∀ o,(o<o2∨o2+R.length≤o)→(o<o1∨o1+L.length≤o)→c'[o]? = c[o]?)∧(∀ j (hj:j<R.length),c'[o2+j]? = some R[j]) ∧
   (∀ j (hj:j<L.length),(o1+j<o2∨o2+R.length≤o1+j)→c'[o1+j]? = some L[j])∧(∀ k,k≠b→(putCells (putCells w b o1 L) b o2 R).heap[k]? = w.heap[k]?) ∧
   (putCells (putCells w b o1 L) b o2 R).os=w.os∧(putCells (putCells w b o1 L) b o2 R).tape=w.tape∧(putCells (putCells w b o1 L) b o2 R).output=w.output∧(putCells (putCells w b o1 L) b o2 R).heap.size=w.heap.size:=by
 obtain ⟨c1,p1,p2,p3,p4,p5,p6,p7,p8,p9⟩:=fM L w b o1 c T hb h1
 obtain ⟨c2,q1,q2,q3,q4,q5,q6,q7,q8,q9⟩:=fM R (putCells w b o1 L) b o2 c1 T p1 (by rw [p2];exact h2)
 exact ⟨c2,q1,q2.trans p2,fun o ho ho'=>(q3 o ho).trans (p3 o ho'),q4,fun j hj ho=>(q3 _ ho).trans (p4 j hj),fun k hk=>(q5 k hk).trans (p5 k hk),q6.trans p6,q7.trans p7,q8.trans p8,q9.trans p9⟩
theorem Lr {A B C:List Value} {j:Nat} (hj:j<(A++B++C).length) :
  (A++B++C).getD j undef=if j<A.length then A.getD j undef else if j<A.length+B.length then B.getD (j - A.length) undef else C.getD (j - (A.length+B.length)) undef:=by
 grind
structure WI (P:Program) (f:FuncId) (ts te ti:TypeId):Prop where
 pos:tsz P te≠0
 us:P.underlying ts=some (.slice te)
 ui:P.underlying ti=some (.int .i64)
 zc:isCells (bV P te)=true
 zl:(bV P te).cells.length=tsz P te
 shift:∀ (b off n c i vb voff m vc:Nat) (cs vs:List Value) (w:World) (_:i<n) (_:0<m) (_:n+m≤c) (_:n+m≤9223372036854775807) (_:vb≠b)
  (_:cs.length=n * tsz P te) (_:vs.length=m * tsz P te)
  (_:∀ j v,cs[j]? = some v→w.cell? ⟨b,off+j,none⟩=some v) (_:∀ j,j<(n+m) * tsz P te→(w.cell? ⟨b,off+j,none⟩).isSome=true) (_:∀ j,j<(n+m) * tsz P te→w.frozen? ⟨b,off+j,none⟩=false)
  (_:∀ j v,vs[j]? = some v→w.cell? ⟨vb,voff+j,none⟩=some v) (_:∀ v∈cs,v.oneCell' = true) (_:∀ v∈vs,v.oneCell' = true)
  (tA tB:TypeId) (kA kB:Nat) (_:w.shape? vb=some (tA,kA)) (_:w.shape? b=some (tB,kB)) (_:kA≠0) (_:w.frozen? ⟨b,kB,none⟩=false),
  Calls P f #[.slice (some ⟨b,off,none⟩) n c,.int .i64 i,.slice (some ⟨vb,voff,none⟩) m vc] w fun e w' =>
   e = .returned (.slice (some ⟨b,off,none⟩) (n+m) c)∧w' = (w.drew.setCells b (off+(i+m) * tsz P te) (cs.drop (i * tsz P te))).setCells b (off+i * tsz P te) vs
 fin:∀ (base:Option Addr) (n c vb voff m vc:Nat) (w w' : World) (v' : Value) (_:0<m) (_:n≤c)
  (_:∀ ty,(Builtin.append_ #[ts,ts] ty #[.slice base n c,.slice (some ⟨vb,voff,none⟩) m vc]).run P w = .ok v' w'),
  Calls P f #[.slice base n c,.int .i64 n,.slice (some ⟨vb,voff,none⟩) m vc] w fun e w1=>e = .returned v' ∧ w1=w'
 zero:∀ (base ya:Option Addr) (n c i vc:Nat) (w:World) (_:i≤n) (_:n≤c),Calls P f #[.slice base n c,.int .i64 i,.slice ya 0 vc] w fun e w1=>e = .returned (.slice base n c)∧w1=w
 grow:∀ (b off n c i vb voff m vc G:Nat) (cs vs:List Value) (ROW:Array Value) (w:World) (_:i<n) (_:0<m) (_:n≤c) (_:c<n+m)
  (_:cs.length=n * tsz P te) (_:vs.length=m * tsz P te)
  (_:∀ j v,cs[j]? = some v→w.cell? ⟨b,off+j,none⟩=some v)
  (_:∀ j v,vs[j]? = some v→w.cell? ⟨vb,voff+j,none⟩=some v) (_:∀ v∈cs,v.oneCell' = true) (_:∀ v∈vs,v.oneCell' = true)
  (_:n+m≤G) (_:n+m≤9223372036854775807) (_:(n+m) * tsz P te≤ROW.size)
  (_:∀ ty,(Builtin.append_ #[ts,ti] ty #[.slice (some ⟨b,off,none⟩) i c,.int .i64 ((n:Int)+(m:Int) - (i:Int))]).run P w = .ok (.slice (some ⟨w.heap.size,0,none⟩) (n+m) G) (w.drew.alloc (.cells ROW te))),
  Calls P f #[.slice (some ⟨b,off,none⟩) n c,.int .i64 i,.slice (some ⟨vb,voff,none⟩) m vc] w fun e w' =>
   e = .returned (.slice (some ⟨w.heap.size,0,none⟩) (n+m) G) ∧
   w' = (((w.alloc (.cells ROW te)).drew.setCells w.heap.size (i * tsz P te) vs).drew).setCells w.heap.size ((i+m) * tsz P te) (cs.drop (i * tsz P te))
theorem size_zeroCells (z:Array Value) (k:Nat):(Builtin.zeroCells z k).size=k * z.size:=by
 simp [Builtin.zeroCells,Nat.mul_comm]
theorem qG {b:Nat} {c:Array Value} {T:TypeId} {f:Nat×Nat} (h:w.heap[b]? = some (.cells c T f)):w.shape? b=some (T,c.size):=by
 simp [World.shape?,h]
theorem sD {b o:Nat} {v:Value} (h:w.cell? ⟨b,o,none⟩=some v):∃ c T f,w.heap[b]? = some (.cells c T f)∧c[o]? = some v:=by
 grind [World.cell?]
theorem Ot {f:FuncId} {ts te ti:TypeId} {nm:Name} {xs ys:List D} {i:Int} {y:V} {k:V→Sa→Prop} (hI:WI P f ts te ti) (hc:aj nm s.vc=some (tsz P te,xs)) (h0:0≤i) (h1:i≤xs.length)
  (hy:y.toD=some (.sl ys)) (hyr:∀ x∈ys,x.cells.length=tsz P te) (hb:(xs.length+ys.length) * fC P te≤140737488355328) (hmx:xs.length+ys.length≤9223372036854775807)
  (hk:k (.vsl nm) (s.bG nm (tsz P te) (xs.take i.toNat++ys++xs.drop i.toNat))):nJ P p f [.vsl nm,.d (.v (.int .i64 i)),y] s k:=by
 intro Mo m sa w nn vs r hR hargs
 obtain ⟨ii,rfl⟩:∃ ii:Nat,i=(ii:Int):=⟨i.toNat,by omega⟩
 simp only [Int.toNat_natCast] at hk
 have hz:=hI.pos
 have hz0:0<tsz P te:=Nat.pos_of_ne_zero hz
 obtain ⟨hn,hvec⟩:=hR.vec nm _ hc
 simp only at hvec
 have hlen:=hvec.len
 have hcap:=hvec.cap
 have a0:=(hargs.2 0 (by simp)).uj
 obtain ⟨a1,_⟩:=(hargs.2 1 (by simp)).val
 have a2:=(hargs.2 2 (by simp)).toD hy
 obtain ⟨ya,yc,sz',yb,yo,cv,ec,hc1,hc2,ha,hsz,hcell,hrep⟩:=a2.rQ
 by_cases hne:ys=[]
 ·subst hne
  have evs:vs = #[.slice (m.vl nm).1 xs.length (m.vl nm).2.2,.int .i64 ii,.slice ya 0 yc]:=by
   have hs3:vs.size=3:=by rw [hargs.1];rfl
   apply Array.ext
   ·rw [hs3];rfl
   ·intro j hj _
    have hj3:j<3:=by rw [hs3] at hj;exact hj
    have gd:vs.getD j undef=vs[j]:=by rw [Array.getD_eq_getD_getElem?,Array.getElem?_eq_getElem hj];rfl
    rw [← gd]
    match j,hj3 with
    | 0,_=>rw [a0,hlen];rfl
    | 1,_=>exact a1
    | 2,_=>exact ec
  rw [evs]
  have e:xs.take ii++[]++xs.drop ii=xs:=by simp
  rw [e] at hk
  obtain ⟨g1,g2⟩:=hR.mM nm (m.ow nm) (m.ow nm) (m.vl nm) (tsz P te) xs (w':=w) (fun _=>⟨hn,rfl⟩) ⟨rfl,rfl,rfl,Nat.le_refl _⟩ (fun _ _ _=>rfl) (fun _ c T h=>⟨c,h,rfl,fun _ _=>rfl⟩) (fun _=>.inl rfl) hvec.hd hlen hcap hvec.capm hvec.mx hvec.sz (fun j hj=>hvec.cells j hj)
  refine dK (callsIn_wide.2 ((hI.zero (m.vl nm).1 ya xs.length (m.vl nm).2.2 ii yc w (by omega) hcap).mono ?_))
  rintro e w1 ⟨rfl,rfl⟩
  refine ⟨_,.vsl nm,_,_,rfl,hk,g1,?_,g2,by simp only [bf];rfl⟩
  have:=@aU.vsl w1 (Tot Mo (s.bG nm (tsz P te) xs).bx (s.bG nm (tsz P te) xs).ow (m.bG nm (m.ow nm) (m.vl nm))) (m.bG nm (m.ow nm) (m.vl nm)) nm
  have e2:(m.bG nm (m.ow nm) (m.vl nm)).vl nm=m.vl nm:=by simp [Mp.bG]
  rw [e2] at this
  rw [← hlen];exact this
 have hya:=ha hne
 subst hya
 have evs:vs = #[.slice (m.vl nm).1 xs.length (m.vl nm).2.2,.int .i64 ii,.slice (some ⟨yb,yo,none⟩) ys.length yc]:=by
  have hs3:vs.size=3:=by rw [hargs.1];rfl
  apply Array.ext
  ·rw [hs3];rfl
  ·intro j hj _
   have hj3:j<3:=by rw [hs3] at hj;exact hj
   have gd:vs.getD j undef=vs[j]:=by rw [Array.getD_eq_getD_getElem?,Array.getElem?_eq_getElem hj];rfl
   rw [← gd]
   match j,hj3 with
   | 0,_=>rw [a0,hlen];rfl
   | 1,_=>exact a1
   | 2,_=>exact ec
 obtain ⟨old,ol,oleaf,orep,ocell,hold⟩:=hvec.list (P:=P)
 obtain ⟨L,hnew,oky,aty⟩:=gq (P:=P) a2 hyr hz
 have hLl:=oky.len
 have hm0:0<ys.length:=List.length_pos_iff.2 hne
 rw [evs]
 have hrowx:Lm w (Tot Mo s.bx s.ow m) xs old:=⟨by rw [ol,bI hvec.sz],oleaf,orep⟩
 have hrowy:Lm w (Tot Mo s.bx s.ow m) ys L:=⟨by rw [hLl,bI hyr],oky.leafs,fun j hj=>oky.flat hz0 j hj⟩
 have hrow:=((hrowx.take hvec.sz ii).app hrowy).app (hrowx.drop hvec.sz ii)
 have hsz' : ∀ x∈xs.take ii++ys++xs.drop ii,x.cells.length=tsz P te:=fun x hx=>by
  rcases List.mem_append.1 hx with hx | hx
  ·rcases List.mem_append.1 hx with hx | hx
   ·exact hvec.sz x (List.mem_of_mem_take hx)
   ·exact hyr x hx
  ·exact hvec.sz x (List.mem_of_mem_drop hx)
 have hnl:(xs.take ii++ys++xs.drop ii).length=xs.length+ys.length:=by simp;omega
 have post:∀ (m' : Mp) (v:Value) (w' : World),Rel Mo m' (s.bG nm (tsz P te) (xs.take ii++ys++xs.drop ii)) sa w' → (∀ M,aU w' M m' (.vsl nm) v)→Step m s w m' (s.bG nm (tsz P te) (xs.take ii++ys++xs.drop ii)) w' → m'.lp=m.lp →
   ∀ e w1,(e = .returned v∧w1=w')→pI Mo m s sa w k e w1:=by
  rintro m' v w' g1 g2 g3 g4 e w1 ⟨rfl,rfl⟩
  exact ⟨v,.vsl nm,m',_,rfl,hk,g1,g2 _,g3,by simp only [bf];rw [show (s.bG nm (tsz P te) (xs.take ii++ys++xs.drop ii)).rd=s.rd from rfl,g4]⟩
 refine dK (callsIn_wide.2 ?_)
 by_cases hie:ii=xs.length
 ·
  subst hie
  obtain ⟨m',v,w',g1,g2,g3,g4,g5⟩:=Ai (ty:=ts) (ts:=#[ts,ts]) (args:=#[.slice (m.vl nm).1 (m.vl nm).2.1 (m.vl nm).2.2,.slice (some ⟨yb,yo,none⟩) ys.length yc]) hR hc rfl rfl hI.us hI.us hz hI.zc hI.zl rfl rfl (by rw [← ec];exact a2) hyr hb hmx
  have e:xs.take xs.length++ys++xs.drop xs.length=xs++ys:=by simp
  rw [e] at post
  rw [hlen] at g1
  exact (hI.fin (m.vl nm).1 xs.length (m.vl nm).2.2 yb yo ys.length yc w w' v hm0 hcap (fun ty=>g1)).mono (post m' v w' g2 g3 g4 g5)
 ·have hin:ii<xs.length:=by omega
  have hadd:(xs.length+ys.length) * tsz P te=xs.length * tsz P te+ys.length * tsz P te:=Nat.add_mul _ _ _
  have hadd2:(ii+ys.length) * tsz P te=ii * tsz P te+ys.length * tsz P te:=Nat.add_mul _ _ _
  have hile:ii * tsz P te≤xs.length * tsz P te:=Nat.mul_le_mul_right _ (by omega)
  have hyl:0<ys.length * tsz P te:=Nat.mul_pos hm0 hz0
  have hdl:(old.drop (ii * tsz P te)).length=xs.length * tsz P te - ii * tsz P te:=by rw [List.length_drop,ol]
  have htl:(old.take (ii * tsz P te)).length=ii * tsz P te:=by rw [List.length_take,ol];omega
  have hOl:(old.take (ii * tsz P te)++L++old.drop (ii * tsz P te)).length=(xs.length+ys.length) * tsz P te:=by
   rw [List.length_append,List.length_append,hdl,htl,hLl];omega
  have hcells:∀ (b:Nat) (w' : World) (c' : Array Value) (T:TypeId),w'.heap[b]? = some (.cells c' T (0,0)) →
    (∀ j,j<ii * tsz P te→c'[j]? = some (old.getD j undef))→(∀ j (hj:j<L.length),c'[ii * tsz P te+j]? = some L[j])→(∀ j (hj:j<(old.drop (ii * tsz P te)).length),c'[(ii+ys.length) * tsz P te+j]? = some (old.drop (ii * tsz P te))[j]) →
    ∀ j (hj:j<(bg (xs.take ii++ys++xs.drop ii)).length),∃ v,w'.cell? ⟨b,j,none⟩=some v∧leaf v=true∧fD w (Tot Mo s.bx s.ow m) (bg (xs.take ii++ys++xs.drop ii))[j] v:=by
   intro b w' c' T hb' p1 p2 p3 j hj
   have hjO:j<(old.take (ii * tsz P te)++L++old.drop (ii * tsz P te)).length:=by rw [hrow.1];exact hj
   refine ⟨_,?_,?_,hrow.2.2 j hj⟩
   ·rw [cell_of_block hb',Lr hjO,htl]
    have hjl:j<(xs.length+ys.length) * tsz P te:=by rw [← hOl];exact hjO
    split
    ·rename_i hj1
     rw [p1 j hj1,List.getD_eq_getElem?_getD,List.getD_eq_getElem?_getD,List.getElem?_take_of_lt hj1]
    ·rename_i hj1
     split
     ·rename_i hj2
      have:=p2 (j - ii * tsz P te) (by omega)
      rw [show ii * tsz P te+(j - ii * tsz P te)=j from by omega] at this
      rw [this,List.getD_eq_getElem?_getD,List.getElem?_eq_getElem (by omega)];rfl
     ·rename_i hj2
      have:=p3 (j - (ii * tsz P te+L.length)) (by omega)
      rw [show (ii+ys.length) * tsz P te+(j - (ii * tsz P te+L.length))=j from by omega] at this
      rw [this,List.getD_eq_getElem?_getD,List.getElem?_eq_getElem (by omega)];rfl
   ·have:=hrow.2.1 _ (List.getElem_mem hjO)
    rw [List.getD_eq_getElem?_getD,List.getElem?_eq_getElem hjO];exact this
  rcases hvec.hd with hd | ⟨b,c,T,hb1,hreg,hblk,hszb⟩
  ·omega
  have hcapm:xs.length * tsz P te≤(m.vl nm).2.2 * tsz P te:=Nat.mul_le_mul_right _ hcap
  have hneo:nonempty (m.ow nm):=by
   rw [hreg];simp only [nonempty]
   exact Nat.lt_of_lt_of_le (Nat.mul_pos (by omega) hz0) hcapm
  have ocs:∀ j v,old[j]? = some v→w.cell? ⟨b,0+j,none⟩=some v:=fun j v hv=>by
   have hj:=(List.getElem?_eq_some_iff.1 hv).1
   have:=ocell j hj
   rw [hreg,List.getD_eq_getElem?_getD,hv] at this
   exact this
  have ycs:∀ j v,L[j]? = some v→w.cell? ⟨yb,yo+j,none⟩=some v∧¬ Tot Mo s.bx s.ow m yb (yo+j):=fun j v hv=>by
   have hj:=(List.getElem?_eq_some_iff.1 hv).1
   obtain ⟨ad,cap',e1,e2,e3,e4⟩:=aty j hj
   rw [ec] at e1;cases e1
   rw [List.getD_eq_getElem?_getD,hv] at e3
   exact ⟨e3,e4⟩
  have hyb:yb≠b:=by
   intro e
   have hv:L[0]? = some L[0]:=List.getElem?_eq_getElem (by omega)
   obtain ⟨g1,g2⟩:=ycs 0 _ hv
   rw [e] at g1 g2
   refine g2 (.inr (.inr ⟨nm,hn,by rw [hreg],by rw [hreg];exact Nat.zero_le _,?_⟩))
   rw [hreg];simp only
   rw [cell_of_block hblk] at g1
   have:=(Array.getElem?_eq_some_iff.1 g1).1
   omega
  have one:∀ l:List Value,(∀ v∈l,leaf v=true)→∀ v∈l,v.oneCell' = true:=fun l h v hv=>nV (h v hv)
  by_cases hroom:xs.length+ys.length≤(m.vl nm).2.2
  ·
   have hcapn:(xs.length+ys.length) * tsz P te≤(m.vl nm).2.2 * tsz P te:=Nat.mul_le_mul_right _ hroom
   obtain ⟨yc0,yT,yf,hyblk,_⟩:=sD (ycs 0 _ (List.getElem?_eq_getElem (show 0<L.length by omega))).1
   have hy0:yc0.size≠0:=by
    have h:=(ycs 0 _ (List.getElem?_eq_getElem (show 0<L.length by omega))).1
    rw [cell_of_block hyblk] at h
    have:=(Array.getElem?_eq_some_iff.1 h).1
    omega
   have hrun:=hI.shift b 0 xs.length (m.vl nm).2.2 ii yb yo ys.length yc old L w hin hm0 hroom hmx hyb ol hLl ocs (fun j hj=>by
     rw [cell_of_block hblk,Array.getElem?_eq_getElem (by omega)];rfl) (fun j _=>iw hblk) (fun j v hv=>(ycs j v hv).1) (one _ oleaf) (one _ oky.leafs) yT T yc0.size c.size (qG hyblk) (qG hblk) hy0 (iw hblk)
   obtain ⟨c',q1,q2,q3,q4,q5,q6,q7,q8,q9,q10⟩:=abB (w:=w.drew) b (0+(ii+ys.length) * tsz P te) (0+ii * tsz P te) (old.drop (ii * tsz P te)) L c T hblk (by omega) (by omega)
   obtain ⟨r1,r2⟩:=hR.mM nm (m.ow nm) (m.ow nm) (some ⟨b,0,none⟩,xs.length+ys.length,(m.vl nm).2.2) (tsz P te) (xs.take ii++ys++xs.drop ii) (w':=putCells (putCells w.drew b (0+(ii+ys.length) * tsz P te) (old.drop (ii * tsz P te))) b (0+ii * tsz P te) L)
    (fun _=>⟨hn,rfl⟩) ⟨q7,q8,q9,by rw [q10];exact Nat.le_refl _⟩ (fun b' _ hne'=>q6 b' (by rw [hreg] at hne'; exact hne' (by rw [hreg] at hneo;exact hneo))) (fun _ c0 T0 hc0=>by
     rw [hreg] at hc0 ⊢
     simp only at hc0 ⊢
     rw [hblk] at hc0;cases hc0
     refine ⟨c',q1,q2,fun o ho=>q3 o ?_ ?_⟩ <;> (right;omega)) (fun _=>.inl rfl) (.inr ⟨b,c',T,rfl,hreg,q1,by rw [q2];exact hszb⟩) hnl.symm (by rw [hnl];exact hroom) hvec.capm (by rw [hnl];exact hmx) hsz' (fun j hj=>by
     rw [hreg];simp only [Nat.zero_add]
     have:=hcells b _ c' T q1 (fun j hj=>by
       rw [q3 j (by left;omega) (by left;omega),← cell_of_block hblk]
       have h:=ocell j (by omega)
       rw [hreg] at h
       simpa using h) (fun j hj=>by have:=q4 j hj;rwa [Nat.zero_add] at this) (fun j hj=>by
       have:=q5 j hj (by right;omega)
       rwa [Nat.zero_add] at this) j hj
     simpa only [Nat.zero_add] using this)
   rw [hb1]
   refine hrun.mono fun e w1 he=>post _ _ _ r1 (fun M=>?_) r2 rfl e w1 ⟨he.1,by rw [he.2,jl,jl]⟩
   have:=@aU.vsl (putCells (putCells w.drew b (0+(ii+ys.length) * tsz P te) (old.drop (ii * tsz P te))) b (0+ii * tsz P te) L) M (m.bG nm (m.ow nm) (some ⟨b,0,none⟩,xs.length+ys.length,(m.vl nm).2.2)) nm
   simpa [Mp.bG] using this
  ·
   obtain ⟨zi,z,hzi,hzz,hzcv⟩:=lQ hI.zc
   have hzs:z.cells.size=tsz P te:=by
    have:=(gY (w:=w) (M:=fun _ _=>False) (m:=m) z).Y5 (by rw [← hzcv];exact hI.zc)
    rw [this.size,← hzcv];exact hI.zl
   have hzisz:zi.size=tsz P te:=by simp [tsz,hzi]
   have hzib:zi.bytes=fC P te:=by simp [fC,hzi]
   have hik:ii+(xs.length+ys.length - ii)=xs.length+ys.length:=by omega
   have hkk:(xs.length:Int)+(ys.length:Int) - (ii:Int)=((xs.length+ys.length - ii:Nat):Int):=by omega
   obtain ⟨G,hG⟩:∃ G,G=grownCap w (xs.length+ys.length) (m.vl nm).2.2 te:=⟨_,rfl⟩
   have hGn:xs.length+ys.length≤G:=by rw [hG];exact grownCap_ge w _ _ _
   have hGmx:G≤9223372036854775807:=by
    rw [hG]
    have:=Nat.mod_lt (w.tape w.drawn (Question.appendCap (xs.length+ys.length) (m.vl nm).2.2 te)) (y:=2 ^ 63 - (xs.length+ys.length)) (by omega)
    simp only [grownCap,Question.cut];omega
   obtain ⟨ROW,hROW⟩:∃ ROW:Array Value,ROW=(old.take (ii * tsz P te)).toArray++Builtin.zeroCells z.cells (xs.length+ys.length - ii)++Builtin.zeroCells z.cells (G - (xs.length+ys.length)):=⟨_,rfl⟩
   have hGm:ii * tsz P te+(xs.length+ys.length - ii) * tsz P te+(G - (xs.length+ys.length)) * tsz P te=G * tsz P te:=by rw [← Nat.add_mul,← Nat.add_mul];congr 1;omega
   have hGm2:(xs.length+ys.length) * tsz P te≤G * tsz P te:=Nat.mul_le_mul_right _ hGn
   have hRs:ROW.size=G * tsz P te:=by
    rw [hROW]
    simp only [Array.size_append,List.size_toArray,size_zeroCells,htl,hzs]
    exact hGm
   have hrz:∀ ty,(Builtin.append_ #[ts,ti] ty #[.slice (some ⟨b,0,none⟩) ii (m.vl nm).2.2,.int .i64 ((xs.length:Int)+(ys.length:Int) - (ii:Int))]).run P w = .ok (.slice (some ⟨w.heap.size,0,none⟩) (xs.length+ys.length) G) (w.drew.alloc (.cells ROW te)):=fun ty=>by
    have h:=Lib.run_append_grow_zeros w ts ti ty te zi z .i64 .i64 hI.us hI.ui hzi hzz (some ⟨b,0,none⟩) ii (m.vl nm).2.2 (old.take (ii * tsz P te)) (by
      rw [hzisz]
      exact Go.run_firstCells_some w.drew (tsz P te) ii ⟨b,0,none⟩ ii (m.vl nm).2.2 (old.take (ii * tsz P te)) (by rw [htl]) (fun j v hj=>by
       rw [Addr.add_lit]
       rw [List.getElem?_take] at hj
       split at hj
       ·exact ocs j v hj
       ·cases hj)) (xs.length+ys.length - ii) (by omega) (by rw [hzisz];exact hz0) (by omega) (by omega) (by
      rw [hzib]
      have:(xs.length+ys.length - ii) * fC P te≤(xs.length+ys.length) * fC P te:=Nat.mul_le_mul_right _ (by omega)
      omega) (by rw [hzib,hik];exact growslice_fits (by omega) hb)
    rw [hik,← hG,← hROW] at h
    rw [hkk]
    exact h
   have hrun:=hI.grow b 0 xs.length (m.vl nm).2.2 ii yb yo ys.length yc G old L ROW w hin hm0 hcap (by omega) ol hLl ocs (fun j v hv=>(ycs j v hv).1) (one _ oleaf) (one _ oky.leafs) hGn hmx (by omega) hrz
   have hbl:Below w.heap.size w ((w.alloc (.cells ROW te)).drew):=((Below.refl _ w).alloc (Nat.le_refl _) _).drew
   have hnewb:((w.alloc (.cells ROW te)).drew).heap[w.heap.size]? = some (.cells ROW te (0,0)):=World.alloc_heap_new w _
   have edr:∀ (o:Nat) (l:List Value),((((w.alloc (.cells ROW te)).drew.setCells w.heap.size (ii * tsz P te) L).drew).setCells w.heap.size o l)=(((w.alloc (.cells ROW te)).drew.drew.setCells w.heap.size (ii * tsz P te) L).setCells w.heap.size o l):=fun o l=>by
    rw [qF]
   obtain ⟨c',q1,q2,q3,q4,q5,q6,q7,q8,q9,q10⟩:=abB (w:=(w.alloc (.cells ROW te)).drew.drew) w.heap.size (ii * tsz P te) ((ii+ys.length) * tsz P te) L (old.drop (ii * tsz P te)) ROW te hnewb (by omega) (by omega)
   obtain ⟨r1,r2⟩:=hR.mM nm (0,0,0) (w.heap.size,0,G * tsz P te) (some ⟨w.heap.size,0,none⟩,xs.length+ys.length,G) (tsz P te) (xs.take ii++ys++xs.drop ii) (w':=putCells (putCells (w.alloc (.cells ROW te)).drew.drew w.heap.size (ii * tsz P te) L) w.heap.size ((ii+ys.length) * tsz P te) (old.drop (ii * tsz P te)))
    (fun h=>by simp [nonempty] at h) ⟨q7.trans hbl.os,q8.trans hbl.tape,q9.trans hbl.output,by rw [q10];exact hbl.size⟩ (fun b' hb' _=>(q6 b' (by omega)).trans (hbl.block b' hb')) (fun h=>by simp [nonempty] at h) (fun _=>.inr (Nat.le_refl _))
    (.inr ⟨w.heap.size,c',te,rfl,rfl,q1,by rw [q2];exact hRs⟩) hnl.symm (by rw [hnl];exact hGn) hGmx (by rw [hnl];exact hmx) hsz' (fun j hj=>by
     simp only [Nat.zero_add]
     exact hcells w.heap.size _ c' te q1 (fun j hj=>by
       rw [q3 j (by left;omega) (by left;omega),hROW,Array.append_assoc,Array.getElem?_append_left (by simpa [htl] using hj),List.getElem?_toArray,List.getElem?_take_of_lt hj,List.getD_eq_getElem?_getD,List.getElem?_eq_getElem (by omega)];rfl) (fun j hj=>q5 j hj (by left;omega)) (fun j hj=>q4 j hj) j hj)
   rw [hb1]
   refine hrun.mono fun e w1 he=>post _ _ _ r1 (fun M=>?_) r2 rfl e w1 ⟨he.1,by rw [he.2,edr,jl,jl]⟩
   have:=@aU.vsl (putCells (putCells (w.alloc (.cells ROW te)).drew.drew w.heap.size (ii * tsz P te) L) w.heap.size ((ii+ys.length) * tsz P te) (old.drop (ii * tsz P te))) M (m.bG nm (w.heap.size,0,G * tsz P te) (some ⟨w.heap.size,0,none⟩,xs.length+ys.length,G)) nm
   simpa [Mp.bG] using this
theorem BX {t:TypeId} {v:Value} (h:(P.info? t).bind (·.zero)=some v) (w:World):(zeroValue t).run P w = .ok v w:=by
 cases hi:P.info? t with
 | none=>grind
 | some i =>
  simp_all [zeroValue,typeInfo]
theorem fO {t:TypeId} {k:Nat} (h:tsz P t=k) (hk:k≠0) (w:World):(Go.sizeOf t).run P w = .ok k w:=by
 subst h
 obtain ⟨i,hi⟩:=rW hk
 simp [Go.sizeOf,typeInfo,hi,tsz]
theorem size_map {t:TypeId} {k:Nat} (h:tsz P t=k) (hk:k≠0):(P.info? t).map (·.size)=some k:=by
 grind [rW,tsz]
end Go.Ab
namespace Go.Ab
open Go Go.RowKit
variable {P:Program} {w:World} {n:Nat} {Mo:Cells} {m:Mp} {s:Sa} {sa:List Act} {p:Name}
structure Lu (P:Program) (f:FuncId) (te:TypeId):Prop where
 one:tsz P te=1
 del:∀ (b off c i j:Nat) (vs:List Value) (w:World) (_:∀ k (hk:k<vs.length),w.cell? ⟨b,off+k,none⟩=some vs[k]∧w.frozen? ⟨b,off+k,none⟩=false) (_:∀ v∈vs,v.oneCell' = true) (_:vs.length≤c) (_:c≤9223372036854775807) (_:i≤j) (_:j≤vs.length),
  Calls P f #[.slice (some ⟨b,off,none⟩) vs.length c,.int .i64 i,.int .i64 j] w fun e w'=>e = .returned (.slice (some ⟨b,off,none⟩) (vs.length - (j - i)) c) ∧
   (w'.os=w.os∧w'.tape=w.tape∧w'.output=w.output∧w'.heap.size=w.heap.size)∧(∀ k,k≠b→w'.heap[k]? = w.heap[k]?) ∧
   ∀ cs T,w.heap[b]? = some (.cells cs T (0,0))→∃ cs',w'.heap[b]? = some (.cells cs' T (0,0))∧cs'.size=cs.size∧(∀ o,(o<off∨off+vs.length≤o)→cs'[o]? = cs[o]?) ∧
    ∀ k,k<vs.length - (j - i)→cs'[off+k]? = (vs.take i++vs.drop j)[k]?
theorem Ou {f:FuncId} {te:TypeId} {nm:Name} {xs:List D} {i j:Int} {k:V→Sa→Prop} (hI:Lu P f te) (hc:aj nm s.vc=some (1,xs)) (h0:0≤i) (h1:i<j) (h2:j≤xs.length)
  (hk:k (.vsl nm) (s.bG nm 1 (xs.take i.toNat++xs.drop j.toNat))):nJ P p f [.vsl nm,.d (.v (.int .i64 i)),.d (.v (.int .i64 j))] s k:=by
 intro Mo m sa w nn vs r hR hargs
 obtain ⟨ii,rfl⟩:∃ ii:Nat,i=(ii:Int):=⟨i.toNat,by omega⟩
 obtain ⟨jj,rfl⟩:∃ jj:Nat,j=(jj:Int):=⟨j.toNat,by omega⟩
 simp only [Int.toNat_natCast] at hk
 obtain ⟨hn,hvec⟩:=hR.vec nm _ hc
 simp only at hvec
 have hlen:=hvec.len
 have hcap:=hvec.cap
 have a0:=(hargs.2 0 (by simp)).uj
 obtain ⟨a1,_⟩:=(hargs.2 1 (by simp)).val
 obtain ⟨a2,_⟩:=(hargs.2 2 (by simp)).val
 have evs:vs = #[.slice (m.vl nm).1 xs.length (m.vl nm).2.2,.int .i64 ii,.int .i64 jj]:=by
  have hs3:vs.size=3:=by rw [hargs.1];rfl
  apply Array.ext
  ·rw [hs3];rfl
  ·intro j hj _
   have hj3:j<3:=by rw [hs3] at hj;exact hj
   have gd:vs.getD j undef=vs[j]:=by rw [Array.getD_eq_getD_getElem?,Array.getElem?_eq_getElem hj];rfl
   rw [← gd]
   match j,hj3 with
   | 0,_=>rw [a0,hlen];rfl
   | 1,_=>exact a1
   | 2,_=>exact a2
 rw [evs]
 obtain ⟨old,ol,oleaf,orep,ocell,hold⟩:=hvec.list (P:=P)
 rw [Nat.mul_one] at ol
 have hrowx:Lm w (Tot Mo s.bx s.ow m) xs old:=⟨by rw [ol,bI hvec.sz,Nat.mul_one],oleaf,orep⟩
 have hrow:=(hrowx.take hvec.sz ii).app (hrowx.drop hvec.sz jj)
 rw [Nat.mul_one,Nat.mul_one] at hrow
 have hsz' : ∀ x∈xs.take ii++xs.drop jj,x.cells.length=1:=fun x hx=>by
  rcases List.mem_append.1 hx with hx | hx
  ·exact hvec.sz x (List.mem_of_mem_take hx)
  ·exact hvec.sz x (List.mem_of_mem_drop hx)
 have hnl:(xs.take ii++xs.drop jj).length=xs.length - (jj - ii):=by simp;omega
 rcases hvec.hd with hd | ⟨b,c,T,hb1,hreg,hblk,hszb⟩
 ·omega
 rw [Nat.mul_one] at hreg hszb
 have hrun:=hI.del b 0 (m.vl nm).2.2 ii jj old w (fun k hk=>⟨by
   have:=ocell k hk
   rw [hreg,List.getD_eq_getElem?_getD,List.getElem?_eq_getElem hk] at this
   exact this,iw hblk⟩) (fun v hv=>nV (oleaf v hv)) (by omega) hvec.capm (by omega) (by omega)
 rw [hb1]
 rw [ol] at hrun
 refine dK (callsIn_wide.2 (hrun.mono ?_))
 rintro e w' ⟨rfl,⟨k1,k2,k3,k4⟩,k5,k6⟩
 obtain ⟨c',q1,q2,q3,q4⟩:=k6 c T hblk
 obtain ⟨r1,r2⟩:=hR.mM nm (m.ow nm) (m.ow nm) (some ⟨b,0,none⟩,xs.length - (jj - ii),(m.vl nm).2.2) 1 (xs.take ii++xs.drop jj) (w':=w')
  (fun _=>⟨hn,rfl⟩) ⟨k1,k2,k3,by rw [k4];exact Nat.le_refl _⟩ (fun b' _ hne'=>k5 b' (by
   rw [hreg] at hne'
   exact hne' (by simp only [nonempty];omega))) (fun _ c0 T0 hc0=>by
   rw [hreg] at hc0 ⊢
   simp only at hc0 ⊢
   rw [hblk] at hc0;cases hc0
   exact ⟨c',q1,q2,fun o ho=>q3 o (by omega)⟩) (fun _=>.inl rfl) (.inr ⟨b,c',T,rfl,by rw [hreg,Nat.mul_one],q1,by rw [q2,Nat.mul_one];exact hszb⟩) hnl.symm (by rw [hnl];simp only;omega) hvec.capm (by rw [hnl];have:=hvec.mx;omega) hsz' (fun j hj=>by
   have hjl:j<(old.take ii++old.drop jj).length:=by rw [hrow.1];exact hj
   have hjx:j<xs.length - (jj - ii):=by
    rw [List.length_append,List.length_take,List.length_drop] at hjl;omega
   refine ⟨(old.take ii++old.drop jj).getD j undef,?_,?_,hrow.2.2 j hj⟩
   ·rw [hreg];simp only
    rw [cell_of_block q1,q4 j (by omega),List.getD_eq_getElem?_getD,List.getElem?_eq_getElem hjl];rfl
   ·rw [List.getD_eq_getElem?_getD,List.getElem?_eq_getElem hjl];exact hrow.2.1 _ (List.getElem_mem hjl))
 refine ⟨_,.vsl nm,_,_,rfl,hk,r1,?_,r2,by simp only [bf];rfl⟩
 have:=@aU.vsl w' (Tot Mo (s.bG nm 1 (xs.take ii++xs.drop jj)).bx (s.bG nm 1 (xs.take ii++xs.drop jj)).ow (m.bG nm (m.ow nm) (some ⟨b,0,none⟩,xs.length - (jj - ii),(m.vl nm).2.2))) (m.bG nm (m.ow nm) (some ⟨b,0,none⟩,xs.length - (jj - ii),(m.vl nm).2.2)) nm
 simpa [Mp.bG] using this
end Go.Ab
namespace Go.Ab
open Go Go.RowKit
variable {P:Program} {w:World} {n:Nat} {Mo:Cells} {m:Mp} {s:Sa} {sa:List Act} {p:Name}
def Ov (P:Program) (f:FuncId) (ds:List D) (sz:Nat) (xs:List D):Prop :=
 ∀ (p:Name) (args:List V) (s:Sa) (nm:Name) (k:V→Sa→Prop),eX V.toD args=some ds→k (.vsl nm) (s.bG nm sz xs)→nJ P p f args s k
structure LD (P:Program) (f:FuncId) (ts te:TypeId):Prop where
 pos:tsz P te≠0
 us:P.underlying ts=some (.slice te)
 zc:isCells (bV P te)=true
 zl:(bV P te).cells.length=tsz P te
 nilc:∀ (n c:Nat) (w:World),Calls P f #[.slice none n c] w fun e w'=>e = .returned (.slice none 0 0)∧w' = w
 somec:∀ (a:Addr) (n c:Nat) (w w' : World) (v' : Value) (_:∀ ty,(Builtin.append_ #[ts,ts] ty #[.slice (some ⟨w.heap.size,0,none⟩) 0 0,.slice (some a) n c]).run P (w.alloc (.cells #[] te)) = .ok v' w'),
  Calls P f #[.slice (some a) n c] w fun e w1=>e = .returned v' ∧ w1=w'
theorem LD.make {f:FuncId} {ts te:TypeId} {xs:List D} (hI:LD P f ts te) (hxr:∀ x∈xs,x.cells.length=tsz P te) (hb:xs.length * fC P te≤140737488355328) (hmx:xs.length≤9223372036854775807):Ov P f [.sl xs] (tsz P te) xs:=by
 intro p args s nm k hd hk Mo m sa w nn vs r hR hargs
 have hz:=hI.pos
 obtain ⟨d1,d2⟩:=fF hd
 obtain ⟨y,rfl⟩:=List.length_eq_one_iff.1 (d1.symm.trans (by rfl):args.length=1)
 have a0:=(hargs.2 0 (by simp)).toD (d2 0 (by simp) (by simp))
 simp only [List.getElem_cons_zero] at a0
 obtain ⟨ya,yc,sz',yb,yo,cv,ec,hc1,hc2,ha,hsz,hcell,hrep⟩:=a0.rQ
 have evs:vs = #[.slice ya xs.length yc]:=by
  have hs:vs.size=1:=by rw [hargs.1];rfl
  apply Array.ext
  ·grind
  simp_all
 rw [evs]
 refine dK (callsIn_wide.2 ?_)
 have post:∀ (w' : World) (reg:Nat×Nat×Nat) (hd:Option Addr×Nat×Nat),Rel Mo (m.bG nm reg hd) (s.bG nm (tsz P te) xs) sa w' → Step m s w (m.bG nm reg hd) (s.bG nm (tsz P te) xs) w' →
   ∀ e w1,(e = .returned (.slice hd.1 hd.2.1 hd.2.2)∧w1=w')→pI Mo m s sa w k e w1:=by
  rintro w' reg hd g2 g3 e w1 ⟨rfl,rfl⟩
  refine ⟨_,.vsl nm,_,_,rfl,hk,g2,?_,g3,by rfl⟩
  have:=@aU.vsl w1 (Tot Mo (s.bG nm (tsz P te) xs).bx (s.bG nm (tsz P te) xs).ow (m.bG nm reg hd)) (m.bG nm reg hd) nm
  simpa [Mp.bG] using this
 have empty:∀ (w' : World) (base:Option Addr),xs=[]→Below w.heap.size w w' → Rel Mo (m.bG nm (0,0,0) (base,0,0)) (s.bG nm (tsz P te) xs) sa w' ∧ Step m s w (m.bG nm (0,0,0) (base,0,0)) (s.bG nm (tsz P te) xs) w':=by
  intro w' base hx hbl
  subst hx
  exact hR.mM nm (0,0,0) (0,0,0) (base,0,0) (tsz P te) [] (w':=w') (fun h=>by simp [nonempty] at h) ⟨hbl.os,hbl.tape,hbl.output,hbl.size⟩ (fun b hb' _=>hbl.block b hb') (fun h=>by simp [nonempty] at h) (fun h=>by simp [nonempty] at h)
   (.inl ⟨rfl,rfl⟩) rfl (by simp) (by simp) (by simp) (by simp) (fun j hj=>by simp [bg] at hj)
 cases ya with
 | none =>
  have hx:xs=[]:=Classical.byContradiction fun h=>by have:=ha h;cases this
  obtain ⟨g1,g2⟩:=empty w none hx (Below.refl _ _)
  exact (hI.nilc _ _ w).mono (post w (0,0,0) (none,0,0) g1 g2)
 | some a =>
  obtain ⟨W0,hW0⟩:∃ W0,W0=w.alloc (.cells #[] te):=⟨_,rfl⟩
  have hbl0:Below w.heap.size w W0:=by rw [hW0];exact (Below.refl _ w).alloc (Nat.le_refl _) _
  have hR0:=hR.below hbl0
  obtain ⟨zi,z,hzi,hzz,hzcv⟩:=lQ hI.zc
  have hzs:z.cells.size=tsz P te:=by
   have:=(gY (w:=w) (M:=fun _ _=>False) (m:=m) z).Y5 (by rw [← hzcv];exact hI.zc)
   rw [this.size,← hzcv];exact hI.zl
  have a0' : fD W0 (Tot Mo s.bx s.ow m) (.sl xs) (.slice (some a) xs.length yc):=by rw [← ec];exact a0.mono (eU _ hbl0)
  obtain ⟨L,hnew,oky,aty⟩:=gq (P:=P) a0' hxr hz
  have happ:=fun ty=>uo (P:=P) (w:=W0) (ty:=ty) (ts:=#[ts,ts]) (args:=#[.slice (some ⟨w.heap.size,0,none⟩) 0 0,.slice (some a) xs.length yc]) (L:=L) (old:=[]) (base:=some ⟨w.heap.size,0,none⟩) (len:=0) (cap:=0) (y:=.slice (some a) xs.length yc) (ny:=xs.length) rfl rfl hI.us hI.us hz ⟨zi,hzi,hzz⟩ rfl rfl rfl
   (by rw [Nat.zero_add];exact hb) (by omega) hnew (fun w' _=>by
    simp only [Builtin.firstCells,Nat.zero_mul]
    exact run_loadCells w' _ 0 (fun _=>undef) (fun q hq=>absurd hq (Nat.not_lt_zero _))) (fun h0 ad had=>by
    have hL0:L=[]:=List.eq_nil_of_length_eq_zero (by rw [oky.len,show xs.length=0 from by omega];simp)
    rw [hL0];rfl)
  by_cases hx0:xs.length=0
  ·have hx:xs=[]:=List.eq_nil_of_length_eq_zero hx0
   have hL0:L=[]:=List.eq_nil_of_length_eq_zero (by rw [oky.len,hx0];simp)
   obtain ⟨g1,g2⟩:=empty W0 (some ⟨w.heap.size,0,none⟩) hx hbl0
   refine (hI.somec a xs.length yc w W0 (.slice (some ⟨w.heap.size,0,none⟩) 0 0) (fun ty=>?_)).mono (post W0 (0,0,0) (some ⟨w.heap.size,0,none⟩,0,0) g1 g2)
   rw [← hW0]
   rcases happ ty with ⟨_,h⟩ | ⟨h,_⟩
   ·rw [h,hL0,hx0];rfl
   ·omega
  ·rcases happ ts with ⟨h,_⟩ | ⟨hcc,nc,rest,⟨hnc,hncm⟩,hrun,hrest⟩
   ·omega
   ·have hbl:Below W0.heap.size W0 (W0.drew.alloc (.cells (([]:List Value).toArray++L.toArray++rest) te)):=((Below.refl _ W0).drew).alloc (Nat.le_refl _) _
    have hnewb:(W0.drew.alloc (.cells (([]:List Value).toArray++L.toArray++rest) te)).heap[W0.heap.size]? = some (.cells (([]:List Value).toArray++L.toArray++rest) te (0,0)):=World.alloc_heap_new W0.drew _
    have hnn:(nc - (0+xs.length)) * tsz P te+xs.length * tsz P te=nc * tsz P te:=by rw [← Nat.add_mul];congr 1;omega
    rw [hzs] at hrest
    have hLl:=oky.len
    have hsize:(([]:List Value).toArray++L.toArray++rest).size=nc * tsz P te:=by
     simp only [Array.size_append,List.size_toArray,List.length_nil,hLl,hrest];omega
    have hz0:0<tsz P te:=Nat.pos_of_ne_zero hz
    obtain ⟨g1,g2⟩:=hR0.mM nm (0,0,0) (W0.heap.size,0,nc * tsz P te) (some ⟨W0.heap.size,0,none⟩,xs.length,nc) (tsz P te) xs (w':=W0.drew.alloc (.cells (([]:List Value).toArray++L.toArray++rest) te)) (fun h=>by simp [nonempty] at h)
     ⟨hbl.os,hbl.tape,hbl.output,hbl.size⟩ (fun b hb' _=>hbl.block b hb') (fun h=>by simp [nonempty] at h) (fun _=>.inr (Nat.le_refl _)) (.inr ⟨W0.heap.size,_,te,rfl,rfl,hnewb,by simp only;omega⟩) rfl (by simp only;omega) hncm hmx hxr (fun j hj=>by
      have hjl:j<L.length:=by rw [hLl,← bI hxr];exact hj
      refine ⟨L.getD j undef,?_,?_,oky.flat hz0 j hj⟩
      ·simp only [Nat.zero_add]
       rw [cell_of_block hnewb,Array.getElem?_append_left (by simp;omega)]
       simp [List.getD_eq_getElem?_getD,List.getElem?_eq_getElem hjl]
      ·rw [List.getD_eq_getElem?_getD,List.getElem?_eq_getElem hjl];exact oky.leafs _ (List.getElem_mem hjl))
    rw [Nat.zero_add] at hrun
    refine (hI.somec a xs.length yc w _ (.slice (some ⟨W0.heap.size,0,none⟩) xs.length nc) (fun ty=>?_)).mono (post _ (W0.heap.size,0,nc * tsz P te) (some ⟨W0.heap.size,0,none⟩,xs.length,nc) g1 ((Step.of_below hbl0).trans g2))
    rw [← hW0]
    rcases happ ty with ⟨h,_⟩ | ⟨hcc',nc',rest',_,hrun',hrest'⟩
    ·omega
    ·exact (show (Builtin.append_ #[ts,ts] ty _).run P W0=(Builtin.append_ #[ts,ts] ts _).run P W0 from rfl).trans hrun
theorem Rel.WJ (h:Rel Mo m s sa w) {nm:Name} {sz:Nat} {xs:List D} (hc:aj nm s.vc=some (sz,xs)):fD w Mo (.sl xs) (.slice (m.vl nm).1 (m.vl nm).2.1 (m.vl nm).2.2):=by
 obtain ⟨hn,hv⟩:=h.vec nm _ hc
 simp only at hv
 rw [hv.len]
 rcases hv.hd with hd | ⟨b,c,T,ha,hrow,hblk,hsz⟩
 ·have hx:xs=[]:=List.eq_nil_of_length_eq_zero (by have:=hv.cap;omega)
  subst hx
  exact fD.sl (xs:=[]) 0 0 0 (fun _ _=>undef) (by simp) (by simp) (by simp) (by simp) (by simp) (by simp)
 ·have hcell:∀ k (hk:k<xs.length) j (hj:j<xs[k].cells.length),∃ v,w.cell? ⟨b,0+k * sz+j,none⟩=some v∧leaf v=true∧fD w (Tot Mo s.bx s.ow m) (xs[k].cells)[j] v∧¬ Mo b (0+k * sz+j):=by
   intro k hk j hj
   have hsz':=hv.sz _ (List.getElem_mem hk)
   rw [hsz'] at hj
   have hz0:0<sz:=by omega
   have hlt:=mul_lt hk hj
   obtain ⟨v,h1,h2,h3⟩:=hv.cells (k * sz+j) (by rw [bI hv.sz];exact hlt)
   rw [hrow] at h1
   simp only [Nat.zero_add] at h1
   have hg:=lN hz0 hv.sz (k * sz+j)
   have e1:(k * sz+j) / sz=k:=by rw [Nat.mul_comm,Nat.mul_add_div hz0,Nat.div_eq_of_lt hj,Nat.add_zero]
   have e2:(k * sz+j) % sz=j:=by rw [Nat.mul_comm,Nat.mul_add_mod,Nat.mod_eq_of_lt hj]
   rw [e1,e2,List.getElem?_eq_getElem (by rw [bI hv.sz];exact hlt),List.getElem?_eq_getElem hk,Option.bind_some,List.getElem?_eq_getElem (by omega),Option.some.injEq] at hg
   have hcap:=Nat.mul_le_mul_right sz hv.cap
   have hne:nonempty (m.ow nm):=by rw [hrow];simp only [nonempty];omega
   refine ⟨v,by rw [Nat.zero_add];exact h1,h2,by rw [← hg];exact h3,fun hm=>h.owm nm hn hne _ (by rw [hrow];exact hm)⟩
  rw [ha]
  refine fD.sl sz b 0 (fun k j=>(w.cell? ⟨b,0+k * sz+j,none⟩).getD undef) hv.cap hv.mx (fun _=>rfl) (fun k hk=>hv.sz _ (List.getElem_mem hk)) (fun k hk j hj=>?_) (fun k hk j hj=>?_)
  ·obtain ⟨v,h1,h2,_,h4⟩:=hcell k hk j hj
   rw [h1];exact ⟨rfl,h2,h4⟩
  ·obtain ⟨v,h1,_,h3,_⟩:=hcell k hk j hj
   simp only [h1,Option.getD_some]
   exact h3.mono (fun b o c hc hm=>⟨hc,fun h=>hm (.inl h)⟩)
theorem Ov.pure {f:FuncId} {ds:List D} {sz:Nat} {xs:List D} (h:Ov P f ds sz xs):kR P f ds [.sl xs]:=by
 intro M w n vs hlt hs hr
 have h0:=EI (m:=⟨fun _=>0,fun _=>(0,0,0),fun _=>0,fun _=>(none,0,0)⟩) ds.length hlt hs hr (Nat.le_refl _)
 have hargs:jQ w (Tot M (s0 ds.length ds).bx (s0 ds.length ds).ow ⟨fun _=>0,fun _=>(0,0,0),fun _=>0,fun _=>(none,0,0)⟩) ⟨fun _=>0,fun _=>(0,0,0),fun _=>0,fun _=>(none,0,0)⟩ (ds.map .d) vs:=by
  refine ⟨by grind,fun i hi=>?_⟩
  simp only [List.length_map] at hi
  simp only [List.getElem_map]
  refine .d ((hr i hi).mono (fun b o c hc hm=>⟨hc,fun ht=>hm ?_⟩))
  rcases ht with ht | ⟨nm,c,hn,_⟩ | ⟨i,hi,_⟩
  ·grind
  ·simp [s0,aj] at hn
  grind
 have hd:∀ ds:List D,eX V.toD (ds.map V.d)=some ds:=by
  intro ds
  induction ds with
  | nil=>rfl
  | cons d ds ih=>simp [eX,V.toD,V.lu,ih]
 have hc:=h [] (ds.map .d) (s0 ds.length ds) [] (fun v s'=>v = .vsl []∧s' = (s0 ds.length ds).bG [] sz xs) (hd ds) ⟨rfl,rfl⟩ M _ _ w n vs none h0 hargs
 refine hc.mono ?_
 rintro e w' ⟨c,v,m',s',rfl,⟨rfl,rfl⟩,hR',hv,hst,_⟩
 refine ⟨c,rfl,⟨hst.keeps.os,hst.keeps.tape,hst.keeps.output,hst.keeps.size,fun b hb'=>hst.keeps.blk b hb' (fun o ho=>?_) (fun hl=>?_)⟩,fun m2=>?_⟩
 ·rcases ho with ⟨nm,c,hn,_⟩ | ⟨i,hi,_⟩
  ·simp [s0,aj] at hn
  grind
 ·obtain ⟨l,q,hl,_⟩:=hl
  simp [s0,aj] at hl
 ·have hcv:=hv.uj
  have:=hR'.WJ (nm:=[]) (sz:=sz) (xs:=xs) (by rfl)
  rw [hcv]
  exact .d this
end Go.Ab
namespace Go.Ab
open Go Go.RowKit
variable {P:Program} {w:World} {n:Nat} {Mo:Cells} {m:Mp} {s:Sa} {p:Name} {k:Sa→Prop}
def Zk (P:Program) (g:FuncId) (args:List V) (s:Sa) (k:V→Sa→Prop):Prop:=∃ ds rs,eX V.toD args=some ds∧kR P g ds rs∧k (iU (rs.map .d)) s
theorem LG {f:FuncId} {args:List V} {ds rs:List D} {k:V→Sa→Prop} (h:kR P f ds rs) (hd:eX V.toD args=some ds) (hk:k (iU (rs.map .d)) s):Zk P f args s k:=⟨ds,rs,hd,h,hk⟩
def BZ (P:Program):tV:={ call:=fun _ g args s k=>Zk P g args s k,yld:=fun _ _ _ _ _=>False,code:=fun _ _ _ _=>False }
def calm:Op→Bool
 | .move _ | .assign _ | .pick _ _ _ | .load _ _ | .fieldAddr _ _ _ | .field _ _ _ | .index _ _ _ | .indexAddr _ _ _ | .binOp _ _ _ _ _ | .unOp _ _ _ | .convert _ _ _ | .build _ _ | .slice _ _ _ _ none | .extract _ _ | .nilCheck _=>true
 | .buildSlice _ l _=>l != 0
 | .call c=>match c.callee with | .builtin .len=>true | .builtin .max=>true | .builtin .min=>true | .value _=>true | _=>false
 | .makeFunc (.func _) f _=>f.isEmpty
 | .lookup _ _ _ _=>true
 | _=>false
theorem WL {t:TypeId} {op:BinOp} {x y:Value} {k:V→Prop} (h:KO P t op x y k):∃ v,k v∧∀ k' : V→Prop,k' v→KO P t op x y k':=by
 unfold KO at h ⊢
 split at h
 ·cases op <;> simp only at h ⊢ <;> first
   | grind
   | grind
   | (simp only [cmpInt,arith] at h ⊢; exact ⟨_,h.2,fun k' hk=>⟨h.1,hk⟩⟩)
   | (simp only [cmpInt,arith] at h ⊢; exact h.2.elim)
 ·cases op <;> simp only at h ⊢ <;> first
   | grind
   | grind
 ·cases op <;> simp only at h ⊢ <;> first
   | grind
   | exact h.elim
 grind
theorem Zl {op:UnOp} {x:Value} {k:V→Prop} (h:unV op x k):∃ v,k v∧∀ k' : V→Prop,k' v→unV op x k':=by
 unfold unV at h ⊢
 split at h
 ·grind
 ·grind
 grind
def V.notNil:V→Bool
 | .nil=>false
 | _=>true
def uw (s:Sa):Op→Bool
 | .binOp _ _ _ y _=>(s.get y).notNil
 | .assign x=>(s.get x).notNil
 | _=>true
def nK (s s' : Sa):Prop:=(∀ nm c,aj nm s.bx=some c→aj nm s'.bx=some c)∧∀ nm c,aj nm s.vc=some c→aj nm s'.vc=some c
theorem nK.of_eq {s s' : Sa} (h:s'.bx=s.bx) (h' : s'.vc=s.vc):nK s s':=⟨fun nm c hc=>by grind,fun nm c hc=>by grind⟩
theorem nY {s:Sa} {i:Name} {sz:Option Nat} {v:V} (h:v.notNil=true):s.claim i sz v=(v,s):=by
 unfold Sa.claim
 split
 ·simp [V.notNil] at h
 rfl
theorem LH {o:Oper} (hc:calm o.op=true) (hnil:uw s o.op=true) (h:aP P (BZ P) p o s k):∃ v,k (s.put o.dst v) ∧
  ∀ s' : Sa,nK s s' → s'.n=s.n→(∀ x∈o.op.operands,s'.get x=s.get x)→∀ k' : Sa→Prop,k' (s'.put o.dst v)→aP P (BZ P) p o s' k':=by
 cases hop:o.op with
 | move x =>
  grind [aP,Op.operands]
 | assign x =>
  grind [uw,aP,nY,Op.operands]
 | pick c x y =>
  simp only [aP,hop] at h ⊢
  split at h
  ·rename_i t hct
   cases t with
   | true=>exact ⟨_,h.1 rfl,fun s' hb hn hg k' hk=>by
     rw [hg c (by simp [Op.operands]),hct,hg x (by simp [Op.operands])];exact ⟨fun _=>hk,fun e=>(by cases e)⟩⟩
   | false=>exact ⟨_,h.2 rfl,fun s' hb hn hg k' hk=>by
     rw [hg c (by simp [Op.operands]),hct,hg y (by simp [Op.operands])];exact ⟨fun e=>(by cases e),fun _=>hk⟩⟩
  ·exact h.elim
 | load t x =>
  simp only [aP,hop] at h ⊢
  split at h
  ·rename_i ag hag
   obtain ⟨h0,h⟩:=h
   split at h
   ·rename_i nm off hx
    split at h
    ·rename_i c hcb
     exact ⟨_,h.2,fun s' hb hn hg k' hk=>by simp only [hag,hg x (by simp [Op.operands]),hx,hb.1 _ _ hcb];exact ⟨h0,h.1,hk⟩⟩
    ·exact h.elim
   ·rename_i cs hx
    exact ⟨_,h.2,fun s' hb hn hg k' hk=>by simp only [hag,hg x (by simp [Op.operands]),hx];exact ⟨h0,h.1,hk⟩⟩
   ·rename_i nm off hx
    split at h
    ·rename_i c hcb
     exact ⟨_,h.2,fun s' hb hn hg k' hk=>by simp only [hag,hg x (by simp [Op.operands]),hx,hb.2 _ _ hcb];exact ⟨h0,h.1,hk⟩⟩
    ·exact h.elim
   ·exact h.elim
  ·exact h.elim
 | fieldAddr t x i =>
  simp only [aP,hop] at h ⊢
  split at h
  ·rename_i off ft hf
   obtain ⟨h0,h⟩:=h
   split at h
   ·rename_i nm o' hx
    exact ⟨_,h,fun s' hb hn hg k' hk=>by simp only [hf,hg x (by simp [Op.operands]),hx];exact ⟨h0,hk⟩⟩
   ·rename_i cs hx
    exact ⟨_,h,fun s' hb hn hg k' hk=>by simp only [hf,hg x (by simp [Op.operands]),hx];exact ⟨h0,hk⟩⟩
   ·rename_i nm o' hx
    exact ⟨_,h,fun s' hb hn hg k' hk=>by simp only [hf,hg x (by simp [Op.operands]),hx];exact ⟨h0,hk⟩⟩
   ·exact h.elim
  ·exact h.elim
 | field t x i =>
  simp only [aP,hop] at h ⊢
  split at h
  ·rename_i off ft hf
   split at h
   ·rename_i ag hag
    exact ⟨_,h.2.2.2,fun s' hb hn hg k' hk=>by simp only [hf,hag,hg x (by simp [Op.operands])];exact ⟨h.1,h.2.1,h.2.2.1,hk⟩⟩
   ·exact h.elim
  ·exact h.elim
 | index t x ix =>
  simp only [aP,hop] at h ⊢
  split at h
  ·rename_i i hi
   split at h
   ·rename_i nn e hne
    split at h
    ·rename_i ag hag
     exact ⟨_,h.2.2.2.2.2,fun s' hb hn hg k' hk=>by simp only [hg x (by simp [Op.operands]),hg ix (by simp [Op.operands]),hi,hne,hag];exact ⟨h.1,h.2.1,h.2.2.1,h.2.2.2.1,h.2.2.2.2.1,hk⟩⟩
    ·exact h.elim
   ·rename_i hne
    split at h
    ·rename_i b hu hx
     obtain ⟨h0,c,hc,h⟩:=h
     exact ⟨_,h,fun s' hb hn hg k' hk=>by simp only [hg x (by simp [Op.operands]),hg ix (by simp [Op.operands]),hi,hne,hu,hx];exact ⟨h0,c,hc,hk⟩⟩
    ·exact h.elim
  ·exact h.elim
 | indexAddr t x ix =>
  simp only [aP,hop] at h ⊢
  split at h
  ·rename_i i hi
   split at h
   ·rename_i e he
    split at h
    ·rename_i xs hxs
     obtain ⟨h1,h2,h3,h4⟩:=h
     have hlt:i.toNat<xs.length:=by omega
     obtain ⟨h5,h6⟩:=h4 _ (List.getElem?_eq_getElem hlt)
     refine ⟨_,h6,fun s' hb hn hg k' hk=>?_⟩
     simp only [hg x (by simp [Op.operands]),hg ix (by simp [Op.operands]),hi,he,hxs]
     refine ⟨h1,h2,h3,fun x hx=>?_⟩
     rw [List.getElem?_eq_getElem hlt] at hx
     cases hx
     exact ⟨h5,hk⟩
    ·rename_i hxs
     split at h
     ·rename_i nm hx
      split at h
      ·rename_i c hc'
       obtain ⟨h1,h2,h3,h4,h5⟩:=h
       refine ⟨_,h5,fun s' hb hn hg k' hk=>?_⟩
       simp only [hg x (by simp [Op.operands]),hg ix (by simp [Op.operands]),hi,he,hxs,hx,hb.2 _ _ hc']
       exact ⟨h1,h2,h3,h4,hk⟩
      ·exact h.elim
     ·exact h.elim
   ·rename_i he
    split at h
    ·rename_i nn e hne
     obtain ⟨h1,h2,h3,h4,h⟩:=h
     split at h
     ·rename_i b o' hx
      exact ⟨_,h,fun s' hb hn hg k' hk=>by simp only [hg x (by simp [Op.operands]),hg ix (by simp [Op.operands]),hi,he,hne,hx];exact ⟨h1,h2,h3,h4,hk⟩⟩
     ·rename_i cs hx
      exact ⟨_,h,fun s' hb hn hg k' hk=>by simp only [hg x (by simp [Op.operands]),hg ix (by simp [Op.operands]),hi,he,hne,hx];exact ⟨h1,h2,h3,h4,hk⟩⟩
     ·rename_i b o' hx
      exact ⟨_,h,fun s' hb hn hg k' hk=>by simp only [hg x (by simp [Op.operands]),hg ix (by simp [Op.operands]),hi,he,hne,hx];exact ⟨h1,h2,h3,h4,hk⟩⟩
     ·exact h.elim
    ·exact h.elim
  ·exact h.elim
 | binOp op t x y u =>
  simp only [aP,hop] at h ⊢
  split at h
  ·rename_i b hb
   split at h
   ·rename_i a ha
    obtain ⟨v,hv,hk⟩:=WL h
    exact ⟨v,hv,fun s' hb' hn hg k' hk'=>by simp only [hg x (by simp [Op.operands]),hg y (by simp [Op.operands]),ha,hb];exact hk (fun v=>k' (s'.put o.dst v)) hk'⟩
   ·exact h.elim
  ·rename_i ys hys
   split at h
   ·rename_i xs hxs
    split at h
    ·rename_i ks hks
     split at h
     ·rename_i r hr
      split at h
      ·exact ⟨_,h,fun s' hb' hn hg k' hk'=>by simp only [hg x (by simp [Op.operands]),hg y (by simp [Op.operands]),hxs,hys,hks,hr];exact hk'⟩
      ·exact ⟨_,h,fun s' hb' hn hg k' hk'=>by simp only [hg x (by simp [Op.operands]),hg y (by simp [Op.operands]),hxs,hys,hks,hr];exact hk'⟩
      ·exact h.elim
     ·exact h.elim
    ·exact h.elim
   ·exact h.elim
  ·rename_i hy
   simp [hop,uw,hy,V.notNil] at hnil
  ·exact h.elim
 | unOp op t x =>
  simp only [aP,hop] at h ⊢
  split at h
  ·rename_i a ha
   obtain ⟨v,hv,hk⟩:=Zl h
   exact ⟨v,hv,fun s' hb' hn hg k' hk'=>by simp only [hg x (by simp [Op.operands]),ha];exact hk (fun v=>k' (s'.put o.dst v)) hk'⟩
  ·exact h.elim
 | convert t u x =>
  simp only [aP,hop] at h ⊢
  split at h
  ·rename_i kd q c hu hx
   exact ⟨_,h.2,fun s' hb' hn hg k' hk'=>by simp only [hg x (by simp [Op.operands]),hu,hx];exact ⟨h.1,hk'⟩⟩
  ·exact h.elim
 | build t ps =>
  simp only [aP,hop] at h ⊢
  obtain ⟨h1,h2,h⟩:=h
  split at h
  ·rename_i cs hcs
   refine ⟨_,h,fun s' hb' hn hg k' hk'=>?_⟩
   have e:(ps.toList.map fun x=>(x.1,s'.get x.2))=ps.toList.map fun x=>(x.1,s.get x.2):=List.map_congr_left fun x hx=>by
    rw [hg x.2 (by simp only [Op.operands,List.mem_toArray,List.mem_map];exact ⟨x,hx,rfl⟩)]
   simp only [e,hcs]
   exact ⟨h1,h2,hk'⟩
  ·exact h.elim
 | buildSlice t l ps =>
  have hl:l≠0:=by simpa [calm,hop] using hc
  simp only [aP,hop] at h ⊢
  split at h
  ·rename_i e he
   obtain ⟨h1,h2,h3,h4,h⟩:=h
   split at h
   ·rename_i xs hxs
    rw [if_neg hl] at h
    refine ⟨_,h.2,fun s' hb' hn hg k' hk'=>?_⟩
    have e' : (ps.toList.map fun x=>s'.get x.2)=ps.toList.map fun x=>s.get x.2:=List.map_congr_left fun x hx=>by
     rw [hg x.2 (by simp only [Op.operands,List.mem_toArray,List.mem_map];exact ⟨x,hx,rfl⟩)]
    simp only [he,e',hxs,if_neg hl]
    exact ⟨h1,h2,h3,h4,h.1,hk'⟩
   ·exact h.elim
  ·exact h.elim
 | slice t x lo hi mx =>
  cases mx with
  | some y=>simp [calm,hop] at hc
  | none =>
   cases lo with
   | none =>
    cases hi with
    | none =>
     simp only [aP,hop] at h ⊢
     split at h
     ·rename_i e xs l he hxs hl
      exact ⟨_,h.2.2.2.2.2,fun s' hb' hn hg k' hk'=>by simp only [hg x (by simp [Op.operands]),he,hxs,hl];exact ⟨h.1,h.2.1,h.2.2.1,h.2.2.2.1,h.2.2.2.2.1,hk'⟩⟩
     ·exact h.elim
    | some hi =>
     simp only [aP,hop] at h ⊢
     split at h
     ·rename_i e xs l he hxs hl
      split at h
      ·rename_i hh hhi
       exact ⟨_,h.2.2.2.2.2,fun s' hb' hn hg k' hk'=>by simp only [hg x (by simp [Op.operands]),hg hi (by simp [Op.operands]),he,hxs,hl,hhi];exact ⟨h.1,h.2.1,h.2.2.1,h.2.2.2.1,h.2.2.2.2.1,hk'⟩⟩
      ·exact h.elim
     ·exact h.elim
   | some lo =>
    cases hi with
    | none =>
     simp only [aP,hop] at h ⊢
     split at h
     ·rename_i e xs l he hxs hl
      exact ⟨_,h.2.2.2.2.2,fun s' hb' hn hg k' hk'=>by simp only [hg x (by simp [Op.operands]),hg lo (by simp [Op.operands]),he,hxs,hl];exact ⟨h.1,h.2.1,h.2.2.1,h.2.2.2.1,h.2.2.2.2.1,hk'⟩⟩
     ·exact h.elim
    | some hi =>
     simp only [aP,hop] at h ⊢
     split at h
     ·rename_i e xs l he hxs hl
      split at h
      ·rename_i hh hhi
       exact ⟨_,h.2.2.2.2.2,fun s' hb' hn hg k' hk'=>by simp only [hg x (by simp [Op.operands]),hg lo (by simp [Op.operands]),hg hi (by simp [Op.operands]),he,hxs,hl,hhi];exact ⟨h.1,h.2.1,h.2.2.1,h.2.2.2.1,h.2.2.2.2.1,hk'⟩⟩
      ·exact h.elim
     ·exact h.elim
 | extract x i =>
  simp only [aP,hop] at h ⊢
  split at h
  ·rename_i vs hx
   split at h
   ·rename_i v hv
    exact ⟨_,h,fun s' hb' hn hg k' hk'=>by simp only [hg x (by simp [Op.operands]),hx,hv];exact hk'⟩
   ·exact h.elim
  ·exact h.elim
 | nilCheck x =>
  simp only [aP,hop] at h ⊢
  split at h
  ·rename_i nm off hx
   exact ⟨_,h,fun s' hb' hn hg k' hk'=>by simp only [hg x (by simp [Op.operands]),hx];exact hk'⟩
  ·rename_i cs hx
   exact ⟨_,h,fun s' hb' hn hg k' hk'=>by simp only [hg x (by simp [Op.operands]),hx];exact hk'⟩
  ·rename_i nm off hx
   exact ⟨_,h,fun s' hb' hn hg k' hk'=>by simp only [hg x (by simp [Op.operands]),hx];exact hk'⟩
  ·exact h.elim
 | makeFunc fn fi cp =>
  cases fn with
  | func f =>
   simp only [aP,hop] at h ⊢
   refine ⟨_,h.2,fun s' hb hn hg k' hk=>⟨h.1,?_⟩⟩
   have e' : (cp.toList.map fun x=>s'.get x)=cp.toList.map fun x=>s.get x:=List.map_congr_left fun x hx=>by
    rw [hg x (by simp only [Op.operands,Array.mem_append];exact .inr (by simpa using hx))]
   rw [show cp.toList.map s'.get=cp.toList.map s.get from e'];exact hk
  | _=>simp [calm,hop] at hc
 | lookup t x ix ok =>
  simp only [aP,hop] at h ⊢
  split at h
  ·rename_i kd et nm hk1 hk2 hx
   split at h
   ·rename_i kd' kvs hb0
    obtain ⟨e1,h⟩:=h
    split at h
    ·rename_i kd2 a hix
     exact ⟨_,h.2.2,fun s' hb hn hg k' hk=>by simp only [hk1,hk2,hg x (by simp [Op.operands]),hx,hb.1 _ _ hb0,hg ix (by simp [Op.operands]),hix];exact ⟨e1,h.1,h.2.1,hk⟩⟩
    ·exact h.elim
   ·exact h.elim
  ·exact h.elim
 | call c =>
  have eargs:∀ s' : Sa,(∀ z∈(Op.call c).operands,s'.get z=s.get z)→c.args.toList.map s'.get=c.args.toList.map s.get:=fun s' hg =>
   List.map_congr_left fun x hx=>hg x (by simp only [Op.operands,Call.operands];simp;exact .inr (by simpa using hx))
  cases hcc:c.callee with
  | value f =>
   simp only [aP,hop,hcc] at h ⊢
   have hf:∀ s' : Sa,(∀ z∈(Op.call c).operands,s'.get z=s.get z)→s'.get f=s.get f:=fun s' hg=>hg f (by simp only [Op.operands,Call.operands,hcc];simp)
   split at h
   ·rename_i g x y hg'
    obtain ⟨h1,ds,rs,h2,h3,h4,h5⟩:=h
    exact ⟨_,h5,fun s' hb' hn hg k' hk'=>by simp only [hf s' hg,hg',eargs s' hg];exact ⟨h1,ds,rs,h2,h3,fun d hd=>by rw [hn];exact h4 d hd,hk'⟩⟩
   ·rename_i g cap hg'
    obtain ⟨h1,ds,rs,h2,h3,h4,h5⟩:=h
    exact ⟨_,h5,fun s' hb' hn hg k' hk'=>by simp only [hf s' hg,hg',eargs s' hg];exact ⟨h1,ds,rs,h2,h3,fun d hd=>by rw [hn];exact h4 d hd,hk'⟩⟩
   ·exact h.elim
   ·exact h.elim
  | invoke r nm=>simp [aP,hop,hcc] at h
  | builtin b =>
   cases b with
   | len =>
    simp only [aP,hop,hcc] at h ⊢
    split at h
    ·rename_i x t ts ha ht
     split at h
     ·rename_i e xs he hxs
      exact ⟨_,h,fun s' hb' hn hg k' hk'=>by rw [eargs s' hg];simp only [ha,ht,he,hxs];exact hk'⟩
     ·rename_i hno
      split at h
      ·rename_i b hu
       have hno' : fJ P t=none:=by unfold fJ;rw [hu]
       refine ⟨_,h,fun s' hb' hn hg k' hk'=>?_⟩
       rw [eargs s' hg]
       simp only [ha,ht,hu,hno']
       exact hk'
      ·rename_i nn e z hu
       have hno' : fJ P t=none:=by unfold fJ;rw [hu]
       refine ⟨_,h.2,fun s' hb' hn hg k' hk'=>?_⟩
       rw [eargs s' hg]
       simp only [ha,ht,hu,hno']
       exact ⟨h.1,hk'⟩
      ·rename_i nm _ _
       split at h
       ·rename_i e c he hvc
        refine ⟨_,h,fun s' hb' hn hg k' hk'=>?_⟩
        rw [eargs s' hg]
        have hu:P.underlying t=some (.slice e):=dB he
        simp only [ha,ht,he,sliceOf,hu,hb'.2 _ _ hvc]
        exact hk'
       ·exact h.elim
      ·exact h.elim
    ·exact h.elim
   | max =>
    simp only [aP,hop,hcc] at h ⊢
    split at h
    ·rename_i q a q2 b ha
     exact ⟨_,h.2,fun s' hb' hn hg k' hk'=>by rw [eargs s' hg];simp only [ha];exact ⟨h.1,hk'⟩⟩
    ·exact h.elim
   | min =>
    simp only [aP,hop,hcc] at h ⊢
    split at h
    ·rename_i q a q2 b ha
     exact ⟨_,h.2,fun s' hb' hn hg k' hk'=>by rw [eargs s' hg];simp only [ha];exact ⟨h.1,hk'⟩⟩
    ·exact h.elim
   | _=>simp [calm,hop,hcc] at hc
 | _=>simp [calm,hop] at hc
end Go.Ab
namespace Go.Ab
open Go Go.RowKit
variable {P:Program} {a:Act} {w:World} {n:Nat} {Mo:Cells} {m:Mp} {s:Sa} {p:Name} {k:Sa→Prop} {Q:Exit→Act→World→Prop} {sv:List Act} {ops:Array Oper}
theorem LJ {o:Oper} (h:aP P (BZ P) p o s k):aP P (pJ P) p o s k:=by
 cases hop:o.op with
 | call c =>
  cases hcc:c.callee with
  | value f =>
   simp only [aP,hop,hcc] at h ⊢
   split at h
   ·obtain ⟨h1,ds,rs,h2,h3,h4⟩:=h
    exact ⟨h1,pO (p:=[]) h3 h2 h4⟩
   ·obtain ⟨h1,ds,rs,h2,h3,h4⟩:=h
    exact ⟨h1,pO (p:=[]) h3 h2 h4⟩
   ·exact h.elim
   ·exact h.elim
  | invoke r nm=>simp [aP,hop,hcc] at h
  | builtin b =>
   cases b with
   | len=>simpa only [aP,hop,hcc] using h
   | append=>simpa only [aP,hop,hcc] using h
   | max=>simpa only [aP,hop,hcc] using h
   | min=>simpa only [aP,hop,hcc] using h
   | _=>simp [aP,hop,hcc] at h
 | makeFunc fn fi ca=>cases fn with
  | func f=>simpa only [aP,hop] using h
  | _=>simp [aP,hop] at h
 | makeMap t r=>cases r with
  | none=>simpa only [aP,hop] using h
  | some y=>simp [aP,hop] at h
 | slice t x lo hi mx=>cases mx with
  | none=>simpa only [aP,hop] using h
  | some y=>simp [aP,hop] at h
 | _=>first | (simpa only [aP,hop] using h) | (simp [aP,hop] at h;done)
theorem Am {i:Nat} {o:Oper} {K:Act→World→Prop} (hi:ops[i]? = some o) (hR:Rel Mo m s (a::sv) w)
  (hN:∀ m' s' v w',k s' → Rel Mo m' s' (a.put o.dst v::sv) w' → Step m s w m' s' w' → bf m' s' = bf m s→K (a.put o.dst v) w')
  (h:bP P (pJ P) p ops [o] s k):wpOpIn (Wd (bf m s)) n P ops Q i K a w:=by
 simp only [bP] at h
 obtain ⟨hd0,h⟩:=h
 have hd:∀ (n' : Nat),n' = s.n→∀ d,o.dst=some d→d<n':=fun n' e d hd=>by grind
 unfold wpOpIn
 simp only [hi]
 have run:∀ (s1:Sa),Rel Mo m s1 (a::sv) w→s1.n=s.n→Step m s w m s1 w→bf m s1=bf m s→aP P (pJ P) p o s1 k →
   o.wpIn (Wd (bf m s)) n P a w K Q:=by
  intro s1 hR1 hn1 hs1 hr1 h1
  rw [← hr1]
  exact Aj hR1 (hd _ hn1) (fun m' s' v w' hk hR' hs' hr'=>hN m' s' v w' hk hR' (hs1.trans hs') (hr'.trans hr1)) h1
 have skip:∀ (s1:Sa),Rel Mo m s1 (a::sv) w→s1.n=s.n→Step m s w m s1 w→bf m s1=bf m s→k (s1.put o.dst (.tup [])) →
   (∀ f,o.about P w a.eval=some f→(Wd (bf m s)).fn f)∧K (a.put o.dst undef) w:=by
  intro s1 hR1 hn1 hs1 hr1 h1
  refine ⟨fun _ _=>trivial,?_⟩
  have hR2:=hR1.put (dst:=o.dst) (hd _ hn1) (ED (w:=w) (M:=Tot Mo s1.bx s1.ow m) (m:=m))
  grind [rU,BN]
 split at h
 ·grind [Region.wanted,Step.refl]
 ·rename_i j want hg
  split at h
  ·rename_i t hjt
   split at h
   ·rename_i b hb
    have hv:=hR.get t
    rw [hb] at hv
    have hy:=vk hjt hv.val.1
    have hw:Region.wanted o (yielded ops a.tmps)=(some b==some want):=by simp [Region.wanted,hg,hy]
    have hRl:=hR.literal hb
    have hst:Step m s w m (s.put (some t) (.d (.v (.bool b)))) w:=rU (Step.refl _ _ _)
    cases b with
    | true =>
     have h:=h.1 rfl
     cases want with
     | true=>rw [if_pos (by rw [hw];rfl)];exact run _ hRl (by rfl) hst (by rfl) h
     | false=>rw [if_neg (by rw [hw];simp)];exact skip _ hRl (by rfl) hst (by rfl) h
    | false =>
     have h:=h.2 rfl
     cases want with
     | true=>rw [if_neg (by rw [hw];simp)];exact skip _ hRl (by rfl) hst (by rfl) h
     | false=>rw [if_pos (by rw [hw];rfl)];exact run _ hRl (by rfl) hst (by rfl) h
   ·rename_i hb
    have hv:=hR.get t
    rw [hb] at hv
    obtain ⟨cs,e,hs,_⟩:=hv.BM
    have hcs:cs = #[]:=by simpa using hs
    subst hcs
    have hy:=rZ hjt e
    rw [if_neg (by simp [Region.wanted,hg,hy])]
    exact skip s hR rfl (Step.refl _ _ _) rfl h
   grind
  grind
theorem sF {i:Nat} {o:Oper} {K:Act→World→Prop} (hi:ops[i]? = some o) (hR:Rel Mo m s (a::sv) w)
  (hN:∀ m' s' a' w',k s' → Rel Mo m' s' (a' :: sv) w' → Step m s w m' s' w' → bf m' s' = bf m s→a'.defers=a.defers→K a' w')
  (h:bP P (pJ P) p ops [o] s k):wpOpIn (Wd (bf m s)) n P ops Q i K a w :=
 Am hi hR (fun m' s' v w' h1 h2 h3 h4=>hN m' s' _ w' h1 h2 h3 h4 put_defers) h
structure Like (s s' : Sa):Prop where
 rd:s.rd=s'.rd
 n:s.n=s'.n
 sv:s.sv=s'.sv
 bx:s.bx=s'.bx
 lp:s.lp=s'.lp
 ow:s.ow=s'.ow
 ts:∀ t,lkT t s.ts=lkT t s'.ts
 vc:s.vc=s'.vc
theorem Like.refl (s:Sa):Like s s:=⟨rfl,rfl,rfl,rfl,rfl,rfl,fun _=>rfl,rfl⟩
theorem Like.trans {s s' s'' : Sa} (h:Like s s') (h' : Like s' s''):Like s s'':=⟨h.rd.trans h'.rd,h.n.trans h'.n,h.sv.trans h'.sv,h.bx.trans h'.bx,h.lp.trans h'.lp,h.ow.trans h'.ow,fun t=>(h.ts t).trans (h'.ts t),h.vc.trans h'.vc⟩
theorem Like.symm {s s' : Sa} (h:Like s s'):Like s' s:=⟨h.rd.symm,h.n.symm,h.sv.symm,h.bx.symm,h.lp.symm,h.ow.symm,fun t=>(h.ts t).symm,h.vc.symm⟩
theorem gB (t u:Nat) (v:V) (l:List (Nat×V)):lkT t (GI u v l)=if u=t then v else lkT t l:=by
 induction l with
 | nil=>rfl
 | cons x l ih =>
  grind [GI,lkT]
theorem Like.put {s s' : Sa} (h:Like s s') (d:Option Tmp) (v:V):Like (s.put d v) (s'.put d v):=by
 cases d with
 | none=>exact h
 | some d=>exact ⟨h.rd,h.n,h.sv,h.bx,h.lp,h.ow,fun t=>by simp only [Sa.put,gB,h.ts t],h.vc⟩
theorem Like.literal {t:Nat} {v:V} (h:lkT t s.ts=v):Like (s.put (some t) v) s:=⟨rfl,rfl,rfl,rfl,rfl,rfl,fun u=>by
 grind [Sa.put,gB],rfl⟩
theorem Like.wk {s s' : Sa} (h:Like s s'):Wk s s':=Wk.of h.rd.symm h.n.symm h.lp.symm (fun t=>.inl (h.ts t).symm) h.sv.symm (fun nm c hc=>by rw [h.bx];grind) (fun i hi=>by rw [h.ow];grind) (fun n c hn=>⟨by rw [h.vc];grind,fun hi=>by rw [← h.ow];grind⟩)
end Go.Ab
namespace Go.Ab
open Go Go.RowKit
variable {P:Program} {a:Act} {w:World} {n:Nat} {Mo:Cells} {m:Mp} {s:Sa} {p:Name} {k:Sa→Prop} {Q:Exit→Act→World→Prop} {sv:List Act} {ops:Array Oper}
def aft (o:Oper):List Nat:=(o.after.toList.filter (fun e=>Region.binds .any e)).map (fun e=>e.on)
def aaY:Operand→Option Nat | .tmp t=>some t | _=>none
def jR (ops:Array Oper) (o:Oper):List Nat:=o.op.operands.toList.filterMap aaY++(match o.guard with | some (j,_)=>((ops[j]?).bind (·.dst)).toList | none=>[])
def aS (ops:Array Oper) (i:Nat):Option Nat:=(ops[i]?).bind (·.dst)
theorem dY {i:Nat} {o:Oper} (h:ops[i]? = some o):aS ops i=o.dst:=by simp [aS,h]
def EL (P:Program) (p:Name) (ops:Array Oper):List Nat→Sa→(Sa→Prop)→Prop
 | [],s,k=>k s
 | i::rest,s,k=>match ops[i]? with
  | some o=>uw s o.op=true∧bP P (BZ P) p ops [o] s fun s'=>EL P p ops rest s' k
  | none=>False
theorem nK.like {s s1 s' : Sa} (h:nK s s') (hl:Like s1 s):nK s1 s':=⟨fun nm c hc=>h.1 nm c (by rw [← hl.bx];grind),fun nm c hc=>h.2 nm c (by rw [← hl.vc];grind)⟩
theorem nK.Zm {s s1 s' : Sa} (h:nK s s') (hl:Like s1 s'):nK s s1:=⟨fun nm c hc=>by rw [hl.bx];exact h.1 nm c hc,fun nm c hc=>by rw [hl.vc];exact h.2 nm c hc⟩
def nZ (P:Program) (p:Name) (ops:Array Oper) (i:Nat) (v:V) (s:Sa):Prop :=
 ∃ o,ops[i]? = some o∧∀ s' : Sa,nK s s' → s'.n=s.n→(∀ t∈jR ops o,lkT t s'.ts=lkT t s.ts) →
  ∀ k' : Sa→Prop,(∀ s1,Like s1 s' → k' (s1.put o.dst v))→bP P (pJ P) p ops [o] s' k'
theorem nZ.like {i:Nat} {v:V} {s s1:Sa} (h:nZ P p ops i v s) (hl:Like s1 s):nZ P p ops i v s1:=by
 obtain ⟨o,ho,h⟩:=h
 exact ⟨o,ho,fun s' hb hn ht k' hk=>h s' (hb.like hl.symm) (hn.trans hl.n) (fun t htm=>(ht t htm).trans (hl.ts t)) k' hk⟩
theorem xq {o:Oper} {s s' : Sa} (h:∀ t∈jR ops o,lkT t s'.ts=lkT t s.ts):∀ x∈o.op.operands,s'.get x=s.get x:=by
 intro x hx
 cases x with
 | tmp t=>exact h t (List.mem_append_left _ (List.mem_filterMap.2 ⟨.tmp t,by grind,rfl⟩))
 | const v=>rfl
 | global g=>rfl
 | func g=>rfl
theorem Jo {i:Nat} {o:Oper} (hi:ops[i]? = some o) (hc:calm o.op=true) (hn:uw s o.op=true) (h:bP P (BZ P) p ops [o] s k) :
  ∃ v s1,Like s1 s∧k (s1.put o.dst v)∧nZ P p ops i v s:=by
 simp only [bP] at h
 obtain ⟨hd,h⟩:=h
 have run:∀ s1:Sa,Like s1 s→uw s1 o.op=true→aP P (BZ P) p o s1 k→∃ v,k (s1.put o.dst v)∧∀ s2:Sa,nK s s2→s2.n=s.n→(∀ t∈jR ops o,lkT t s2.ts=lkT t s.ts)→∀ k' : Sa→Prop,k' (s2.put o.dst v)→aP P (pJ P) p o s2 k':=by
  intro s1 hl hn1 h1
  obtain ⟨v,hv,hh⟩:=LH hc hn1 h1
  refine ⟨v,hv,fun s2 hb hnn ht k' hk'=>LJ (hh s2 (hb.like hl) (hnn.trans hl.n.symm) (fun x hx=>?_) k' hk')⟩
  exact xq (ops:=ops) (fun t htm=>(ht t htm).trans (hl.ts t).symm) x hx
 have nil1:∀ s1:Sa,Like s1 s→uw s1 o.op=true:=by
  intro s1 hl
  have:∀ x,s1.get x=s.get x:=fun x=>by cases x <;> first | exact hl.ts _ | rfl
  cases hop:o.op <;> simp only [uw,hop] at hn ⊢ <;> (grind)
 split at h
 ·rename_i hg
  obtain ⟨v,hv,hh⟩:=run s (Like.refl s) hn h
  refine ⟨v,s,Like.refl s,hv,o,hi,fun s' hb hnn ht k' hk'=>?_⟩
  grind [bP,Like.refl]
 ·rename_i j want hg
  split at h
  ·rename_i t hjt
   have htr:t∈jR ops o:=List.mem_append_right _ (by grind)
   split at h
   ·rename_i b hb
    cases b with
    | true =>
     have h:=h.1 rfl
     have hl:=Like.literal hb
     cases want with
     | true =>
      obtain ⟨v,hv,hh⟩:=run _ hl (nil1 _ hl) (by simpa using h)
      refine ⟨v,_,hl,hv,o,hi,fun s' hb' hnn ht k' hk'=>?_⟩
      have hb2:=(ht t htr).trans hb
      simp only [bP,hg,hjt,hb2]
      refine ⟨by rw [hnn];exact hd,⟨fun _=>?_,fun e=>(by cases e)⟩⟩
      have hl2:=Like.literal hb2
      simp only [if_true]
      exact hh _ (hb'.Zm hl2) (hl2.n.trans hnn) (fun t' ht'=>(hl2.ts t').trans (ht t' ht')) k' (hk' _ hl2)
     | false =>
      refine ⟨.tup [],_,hl,by simpa using h,o,hi,fun s' hb' hnn ht k' hk'=>?_⟩
      have hb2:=(ht t htr).trans hb
      simp only [bP,hg,hjt,hb2]
      refine ⟨by rw [hnn];exact hd,⟨fun _=>?_,fun e=>(by cases e)⟩⟩
      simpa using hk' _ (Like.literal hb2)
    | false =>
     have h:=h.2 rfl
     have hl:=Like.literal hb
     cases want with
     | false =>
      obtain ⟨v,hv,hh⟩:=run _ hl (nil1 _ hl) (by simpa using h)
      refine ⟨v,_,hl,hv,o,hi,fun s' hb' hnn ht k' hk'=>?_⟩
      have hb2:=(ht t htr).trans hb
      simp only [bP,hg,hjt,hb2]
      refine ⟨by rw [hnn];exact hd,⟨fun e=>(by cases e),fun _=>?_⟩⟩
      have hl2:=Like.literal hb2
      simp only [Bool.false_eq_true,if_false]
      exact hh _ (hb'.Zm hl2) (hl2.n.trans hnn) (fun t' ht'=>(hl2.ts t').trans (ht t' ht')) k' (hk' _ hl2)
     | true =>
      refine ⟨.tup [],_,hl,by simpa using h,o,hi,fun s' hb' hnn ht k' hk'=>?_⟩
      have hb2:=(ht t htr).trans hb
      simp only [bP,hg,hjt,hb2]
      refine ⟨by rw [hnn];exact hd,⟨fun e=>(by cases e),fun _=>?_⟩⟩
      simpa using hk' _ (Like.literal hb2)
   ·rename_i hb
    refine ⟨.tup [],s,Like.refl s,h,o,hi,fun s' hb' hnn ht k' hk'=>?_⟩
    have hb2:=(ht t htr).trans hb
    simp only [bP,hg,hjt,hb2]
    exact ⟨by rw [hnn];exact hd,hk' _ (Like.refl s')⟩
   grind
  grind
def aN (ops:Array Oper) (s:Sa) (l:List (Nat×V)):Sa:=l.foldl (fun s x=>s.put (aS ops x.1) x.2) s
theorem Like.aN {s s' : Sa} (h:Like s s') (l:List (Nat×V)):Like (aN ops s l) (aN ops s' l):=by
 induction l generalizing s s' with
 | nil=>exact h
 | cons x l ih=>exact ih (h.put _ _)
theorem mO (l l' : List (Nat×V)):aN ops s (l++l')=aN ops (aN ops s l) l':=by simp [aN]
theorem aZ (l:List (Nat×V)):(aN ops s l).rd=s.rd∧(aN ops s l).n=s.n∧(aN ops s l).sv=s.sv∧(aN ops s l).bx=s.bx∧(aN ops s l).lp=s.lp∧(aN ops s l).ow=s.ow:=by
 induction l generalizing s with
 | nil=>exact ⟨rfl,rfl,rfl,rfl,rfl,rfl⟩
 | cons x l ih =>
  have:=ih (s:=s.put (aS ops x.1) x.2)
  have e:∀ d v,(s.put d v).rd=s.rd∧(s.put d v).n=s.n∧(s.put d v).sv=s.sv∧(s.put d v).bx=s.bx∧(s.put d v).lp=s.lp∧(s.put d v).ow=s.ow:=fun d v=>by cases d <;> exact ⟨rfl,rfl,rfl,rfl,rfl,rfl⟩
  obtain ⟨e1,e2,e3,e4,e5,e6⟩:=e (aS ops x.1) x.2
  exact ⟨this.1.trans e1,this.2.1.trans e2,this.2.2.1.trans e3,this.2.2.2.1.trans e4,this.2.2.2.2.1.trans e5,this.2.2.2.2.2.trans e6⟩
theorem dP:∀ (l:List (Nat×V)) {s:Sa},(aN ops s l).vc=s.vc
 | [],s=>rfl
 | x::l,s=>by
  have e:(s.put (aS ops x.1) x.2).vc=s.vc:=by cases aS ops x.1 <;> rfl
  exact (dP l (s:=s.put (aS ops x.1) x.2)).trans e
theorem qH {t:Nat} {l:List (Nat×V)} (h:∀ x∈l,aS ops x.1≠some t):lkT t (aN ops s l).ts=lkT t s.ts:=by
 induction l generalizing s with
 | nil=>rfl
 | cons x l ih =>
  have e:aN ops s (x::l)=aN ops (s.put (aS ops x.1) x.2) l:=rfl
  rw [e,ih (fun y hy=>h y (List.mem_cons_of_mem _ hy))]
  have hx:=h x List.mem_cons_self
  cases hd:aS ops x.1 with
  | none=>rfl
  | some d=>grind [Sa.put,gB]
def Apart (ops:Array Oper) (l:List (Nat×V)):Prop:=∀ x∈l,∀ y∈l,∀ t,aS ops x.1=some t→aS ops y.1=some t→x=y
theorem og {t:Nat} {l:List (Nat×V)} (ha:Apart ops l) {x:Nat×V} (hx:x∈l) (hd:aS ops x.1=some t):lkT t (aN ops s l).ts=x.2:=by
 induction l generalizing s with
 | nil=>grind
 | cons y l ih =>
  have e:aN ops s (y::l)=aN ops (s.put (aS ops y.1) y.2) l:=rfl
  rw [e]
  by_cases hxl:x∈l
  ·exact ih (fun a ha' b hb=>ha a (List.mem_cons_of_mem _ ha') b (List.mem_cons_of_mem _ hb)) hxl
  ·have hxy:x=y:=by
    grind
   subst hxy
   rw [qH (fun z hz e=>hxl (by rw [ha x List.mem_cons_self z (List.mem_cons_of_mem _ hz) t hd e];grind)),hd]
   simp [Sa.put,gB]
end Go.Ab
namespace Go.Ab
open Go Go.RowKit
variable {P:Program} {a:Act} {w:World} {n:Nat} {Mo:Cells} {m:Mp} {s:Sa} {p:Name} {k:Sa→Prop} {Q:Exit→Act→World→Prop} {sv:List Act} {ops:Array Oper}
inductive Seg where
 | calm (l:List Nat)
 | bar (i:Nat)
 | beside (l1 l2 js:List Nat)
def Seg.idx:Seg→List Nat
 | .calm l=>l
 | .bar i=>[i]
 | .beside l1 l2 js=>l1++(l2++js)
def flat:List Seg→List Nat
 | []=>[]
 | x::rest=>x.idx++flat rest
def hide (H:List Name) (s:Sa):Sa:={ s with bx:=s.bx.filter fun x=>!H.contains x.1,vc:=s.vc.filter fun x=>!H.contains x.1 }
def zK (ops:Array Oper) (i:Nat) (f:List Nat→Bool):Bool:=match ops[i]? with | some o=>f (aft o) | none=>false
theorem oh {i:Nat} {f:List Nat→Bool} (h:zK ops i f=true):∃ o,ops[i]? = some o∧f (aft o)=true:=by
 grind [zK]
def iM (ops:Array Oper) (l:List Nat) (i:Nat):Bool:=match ops[i]? with
 | some o=>calm o.op&&(o.dst.isSome&&l.all fun j=>j==i || (aS ops j != o.dst&&((jR ops o).all (fun t=>aS ops j != some t) || (aft o).contains j)))
 | none=>false
def gQ (ops:Array Oper):List Nat→List Nat→Bool
 | _,[]=>true
 | done,i::rest=>zK ops i (fun l=>l.all done.contains)&&(!done.contains i&&gQ ops (i::done) rest)
def lD (ops:Array Oper) (i:Nat):List Nat:=match ops[i]? with | some o=>aft o | none=>[]
def need (ops:Array Oper):List Nat→List Nat→List Nat
 | [],S=>S
 | j::rest,S=>need ops rest (if S.contains j then lD ops j++S else S)
theorem Jp {q:Nat→Prop}:∀ {l S:List Nat},(∀ j∈S,q j)→(∀ j∈l,q j→∀ x∈lD ops j,q x)→∀ j∈need ops l S,q j:=by
 intro l
 induction l with
 | nil=>intro S h _ j hj;exact h j hj
 | cons i l ih =>
  grind [need]
def readsOf (ops:Array Oper) (i:Nat):List Nat:=match ops[i]? with | some o=>jR ops o | none=>[]
def lkD (d:Option Tmp) (s:Sa):V:=match d with | some t=>lkT t s.ts | none=>.dead
def LK (ds:List Tmp) (s sj:Sa):V→Prop
 | .d _=>True
 | .nil=>True
 | .ref _=>True
 | .ptr n _=>∃ t o o',t ∉ ds∧lkT t s.ts = .ptr n o∧lkT t sj.ts = .ptr n o'
 | _=>False
def Ox (ops:Array Oper) (done l1 l2:List Nat) (j:Nat):Bool:=match ops[j]? with
 | some oj=>decide ((∀ q∈aft oj,q∈done∨q∈l1)∧(∀ q∈l1,q∈need ops (l1++l2).reverse (aft oj))∧j ∉ done∧j ∉ l1++l2∧∀ q∈l2,aS ops q≠oj.dst∧(∀ d∈oj.dst.toList,d ∉ readsOf ops q)∧∀ d∈(aS ops q).toList,d ∉ readsOf ops q)
 | none=>false
def abC (ops:Array Oper) (l2:List Nat) (d:Option Tmp) (hb s sj:Sa) (val:Nat→V):Prop :=
 nK hb sj∧sj.n=s.n∧(∀ q∈l2,∀ u∈readsOf ops q,(∀ y∈l2,aS ops y≠some u)→lkT u sj.ts=lkT u s.ts)∧∀ q∈l2,LK (d.toList++l2.filterMap (aS ops)) s sj (val q)
def EM (P:Program) (p:Name) (ops:Array Oper) (l2:List Nat) (hb:Sa) (val:Nat→V):List Nat→Sa→(Sa→Prop)→Prop
 | [],s,k=>k s
 | j::js,s,k=>match ops[j]? with
  | some oj=>(∀ q∈l2,∀ d,aS ops q=some d→lkT d s.ts = .dead)∧bP P (pJ P) p ops [oj] s fun sj=>abC ops l2 oj.dst hb s sj val∧EM P p ops l2 hb val js sj k
  | none=>False
def iy (ops:Array Oper) (later:List Nat):List Nat→List Nat→List Nat→List Nat→Bool
 | [],dn,l1,l2=>l1.isEmpty&&(gQ ops dn l2&&later.all fun q=>zK ops q fun al=>al.any later.contains || l2.all (need ops l2.reverse al).contains)
 | j::js,dn,l1,l2=>gQ ops dn (l1++l2)&&(Ox ops dn l1 l2 j&&((js++later).all (fun q=>zK ops q fun al=>al.any (js++later).contains || (need ops (l1++l2).reverse al).contains j)&&iy ops later js (j::(l1.reverse++dn)) [] l2))
theorem kS {later:List Nat}:∀ {js dn l1 l2:List Nat},iy ops later js dn l1 l2=true→gQ ops dn (l1++l2)=true
 | [],dn,l1,l2,h=>by
  grind [iy]
 | j::js,dn,l1,l2,h=>by
  grind [iy]
theorem WM {dn l1 l2:List Nat} {j:Nat} (h:Ox ops dn l1 l2 j=true):j ∉ dn∧j ∉ l1++l2∧j<ops.size:=by
 grind [Ox]
theorem iV {later:List Nat}:∀ {js dn l1 l2:List Nat},iy ops later js dn l1 l2=true→∀ q∈js,q ∉ dn∧q ∉ l1++l2∧q<ops.size
 | [],dn,l1,l2,h,q,hq=>by grind
 | j::js,dn,l1,l2,h,q,hq=>by
  simp only [iy,Bool.and_eq_true] at h
  rcases List.mem_cons.1 hq with e | hq
  ·subst e;exact WM h.2.1
  ·obtain ⟨h1,h2,h3⟩:=iV h.2.2.2 q hq
   grind
def kT (P:Program) (p:Name) (ops:Array Oper):List Seg→Sa→(Sa→Prop)→Prop
 | [],s,k=>k s
 | .calm l::rest,s,k=>EL P p ops l s fun s'=>kT P p ops rest s' k
 | .bar i::rest,s,k=>match ops[i]? with
  | some o=>bP P (pJ P) p ops [o] s fun s'=>kT P p ops rest s' k
  | none=>False
 | .beside l1 l2 js::rest,s,k=>(∀ q∈l2,∀ d,aS ops q=some d→lkT d s.ts = .dead)∧EL P p ops l1 s fun s1=>∃ H,EL P p ops l2 (hide H s1) fun s2=>EM P p ops l2 (hide H s1) (fun q=>lkD (aS ops q) s2) js s1 fun sj =>
   kT P p ops rest (aN ops sj (l2.map fun q=>(q,lkD (aS ops q) s2))) k
def jB (ops:Array Oper):List Nat→List Seg→Bool
 | done,[]=>(List.range ops.size).all done.contains&&done.length==ops.size
 | done,.calm l::rest=>l.all (iM ops l)&&(gQ ops done l&&((flat rest).all (fun i=>zK ops i fun al=>al.any (flat rest).contains || l.all (need ops l.reverse al).contains)&&jB ops (l.reverse++done) rest))
 | done,.bar i::rest=>gQ ops done [i]&&((flat rest).all (fun j=>zK ops j fun al=>al.any (i::flat rest).contains)&&jB ops (i::done) rest)
 | done,.beside l1 l2 js::rest=>(l1++l2).all (iM ops (l1++l2))&&(!js.isEmpty&&(iy ops (flat rest) js done l1 l2&&jB ops (js.reverse++((l1++l2).reverse++done)) rest))
theorem fP:∀ (pre:List Nat) {done post:List Nat} {i:Nat},gQ ops done (pre++i::post)=true →
  (∃ o,ops[i]? = some o∧∀ j∈aft o,j∈done∨j∈pre)∧i ∉ done∧i ∉ pre:=by
 intro pre
 induction pre with
 | nil =>
  grind [gQ,oh]
 | cons x pre ih =>
  grind [gQ]
theorem dZ:∀ {l done:List Nat},gQ ops done l=true→l.Nodup∧∀ i∈l,i ∉ done∧i<ops.size:=by
 intro l
 induction l with
 | nil=>grind
 | cons x l ih =>
  grind [gQ,oh]
theorem fG:∀ {plan:List Seg} {done:List Nat},jB ops done plan=true→(∀ j∈flat plan,j ∉ done)∧(∀ j<ops.size,j∈done∨j∈flat plan)∧done.length+(flat plan).length=ops.size:=by
 intro plan
 induction plan with
 | nil =>
  simp_all [jB,flat]
 | cons x rest ih =>
  intro done h
  cases x with
  | calm l =>
   simp only [jB,Bool.and_eq_true] at h
   obtain ⟨h1,h2,h3⟩:=ih h.2.2.2
   obtain ⟨h4,h5⟩:=dZ h.2.1
   refine ⟨fun j hj=>?_,fun j hj=>?_,?_⟩
   ·grind [flat,Seg.idx]
   ·grind [flat,Seg.idx]
   grind [flat,Seg.idx]
  | bar i =>
   simp only [jB,Bool.and_eq_true] at h
   obtain ⟨h1,h2,h3⟩:=ih h.2.2
   obtain ⟨h4,h5⟩:=dZ h.1
   refine ⟨fun j hj=>?_,fun j hj=>?_,?_⟩
   ·grind [flat,Seg.idx]
   ·grind [flat,Seg.idx]
   grind [flat,Seg.idx]
  | beside l1 l2 js =>
   simp only [jB,Bool.and_eq_true] at h
   obtain ⟨h1,h2,h3⟩:=ih h.2.2.2
   obtain ⟨h4,h5⟩:=dZ (kS h.2.2.1)
   grind [iV,flat,Seg.idx]
theorem xu:∀ (l:List Nat) {s:Sa},(∀ i∈l,∃ o,ops[i]? = some o∧calm o.op=true)→EL P p ops l s k →
  ∃ (ivs:List (Nat×V)) (s' : Sa),ivs.map Prod.fst=l∧Like s' (aN ops s ivs)∧k s' ∧ ∀ pre i v post,ivs=pre++(i,v)::post→nZ P p ops i v (aN ops s pre):=by
 intro l
 induction l with
 | nil=>intro s _ h;exact ⟨[],s,rfl,Like.refl s,h,fun pre i v post e=>by simp at e⟩
 | cons i l ih =>
  intro s hc h
  obtain ⟨o,ho,hcalm⟩:=hc i List.mem_cons_self
  simp only [EL,ho] at h
  obtain ⟨v,s1,hl,hk,hf⟩:=Jo ho hcalm h.1 h.2
  obtain ⟨ivs,s',h1,h2,h3,h4⟩:=ih (fun j hj=>hc j (List.mem_cons_of_mem _ hj)) hk
  have e:∀ l',aN ops s ((i,v)::l')=aN ops (s.put o.dst v) l':=fun l'=>by grind [aN,dY]
  refine ⟨(i,v)::ivs,s',by grind,?_,h3,fun pre j u post he=>?_⟩
  ·rw [e];exact h2.trans ((hl.put _ _).aN ivs)
  ·cases pre with
   | nil=>simp only [List.nil_append,List.cons.injEq,Prod.mk.injEq] at he;obtain ⟨⟨rfl,rfl⟩,_⟩:=he;exact hf
   | cons x pre =>
    simp only [List.cons_append,List.cons.injEq] at he
    obtain ⟨rfl,he⟩:=he
    rw [e]
    exact (h4 pre j u post he).like (((hl.put _ _).aN pre).symm)
end Go.Ab
