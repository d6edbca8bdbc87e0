import Derived.Test.YtleeccmcgophfaaGreatPE
import Derived.Test.YtleeccmcgophfaaGreatPC
set_option linter.all false
namespace Go.Tx
open Go Go.Ab
def constS (v:Value):Option SV :=
 match v with
 | .slice none 0 0=>some .nil
 | .agg cs=>if cs.all (fun c=>scalar c || (match c with | .slice none 0 0=>true | _=>false)) then some (.kd cs.toList) else none
 | .bool b=>some (.e .bool (.bool b))
 | .int k n=>if inR k n then some (.e (.int k) (.int k n)) else none
 | .string s=>if s.size≤9223372036854775807 then some (.e .str (.str s)) else none
 | .nilFunc=>some (.e (.cst .nilf) (.cst .nilf))
 | .pointer none=>some (.e (.cst .nilp) (.cst .nilp))
 | .map none=>some (.e (.cst .nilm) (.cst .nilm))
 | .nilIface=>some (.e (.cst .nili) (.cst .nili))
 | .func (.func g) a b=>if a.isEmpty&&b.isEmpty then some (.e (.cst (.fnc g)) (.cst (.fnc g))) else none
 | _=>none
theorem constS_ok {env:List Val} {v:Value} {x:SV} (h:constS v=some x):InstV env x (constV v):=by
 unfold constS at h
 split at h
 ·cases h;rfl
 ·grind [InstV,constV]
 ·cases h;simp [InstV,constV,scalar,E.val,encD,wrapD,Ty.ag,enc]
 ·split at h
  ·rename_i hc;cases h;simp [InstV,constV,scalar,E.val,encD,wrapD,Ty.ag,enc,hc]
  grind
 ·split at h
  ·rename_i hc;cases h;simp [InstV,constV,scalar,E.val,encD,wrapD,Ty.ag,enc,hc]
  grind
 ·cases h;simp [InstV,constV,scalar,E.val,encD,wrapD,Ty.ag,enc,Cst.val]
 ·cases h;simp [InstV,constV,scalar,E.val,encD,wrapD,Ty.ag,enc,Cst.val]
 ·cases h;simp [InstV,constV,scalar,E.val,encD,wrapD,Ty.ag,enc,Cst.val]
 ·cases h;simp [InstV,constV,scalar,E.val,encD,wrapD,Ty.ag,enc,Cst.val]
 ·split at h
  ·rename_i hc
   cases h
   simp_all [InstV,constV,scalar,E.val,encD,wrapD,Ty.ag,enc,Cst.val]
  grind
 grind
def Sy.get (y:Sy):Operand→Option SV
 | .tmp t=>some (lkS t y.ts)
 | .const v=>constS v
 | .global _=>none
 | .func g=>some (.e (.cst (.fnc g)) (.cst (.fnc g)))
theorem Inst.get {env:List Val} {y:Sy} {s:Sa} (h:Inst env y s) {o:Operand} {x:SV} (hx:y.get o=some x):InstV env x (s.get o):=by
 cases o with
 | tmp t=>cases hx;exact h.ts.lk
 | const v=>exact constS_ok hx
 | global g=>cases hx
 | func g=>cases hx;simp [InstV,Sa.get,E.val,encD,wrapD,Ty.ag,enc,Cst.val]
def Sy.put (y:Sy):Option Tmp→SV→Sy
 | none,_=>y
 | some d,v=>{ y with ts:=setS d v y.ts }
theorem Inst.put {env:List Val} {y:Sy} {s:Sa} (h:Inst env y s) (d:Option Tmp) {x:SV} {v:V} (hv:InstV env x v):Inst env (y.put d x) (s.put d v):=by
 cases d with
 | none=>exact h
 | some d=>exact ⟨h.g,h.rd,h.n,h.ts.set hv,h.sv,h.bx,h.lp,h.ow,h.vc⟩
mutual
def SV.strip (i:Name):SV→SV
 | .vsl n=>if n=i then .dead else .vsl n
 | .vpt n t x inn=>if n=i then .dead else .vpt n t x inn
 | .own j sz t x=>if j=i then .e (.sl t) x else .own j sz t x
 | .fn f c=>.fn f (SV.stripL i c)
 | .agg c=>.agg (SV.stripL i c)
 | .mix t x os zs=>.mix t x os (SV.stripL i zs)
 | .tup c=>.tup (SV.stripL i c)
 | .gd gs x=>.gd gs (SV.strip i x)
 | x=>x
def SV.stripL (i:Name):List SV→List SV
 | []=>[]
 | v::vs=>SV.strip i v::SV.stripL i vs
end
theorem typed_strip {env:List Val} {i:Name} {x:SV} (h:typed env x):typed env (SV.strip i x):=by
 cases x <;> simp only [SV.strip] <;> try exact h
 ·grind [typed]
 ·split <;> simp [typed]
 ·split <;> simp [typed]
theorem encD_sl (t:Ty) (a:List t.den):encD (.sl t) a = .sl (a.map (encD t)):=rfl
mutual
theorem InstV.strip {env:List Val} (i:Name):∀ {x:SV} {v:V},InstV env x v→InstV env (x.strip i) (v.strip i)
 | .e t x,v,h=>by simp only [InstV,SV.strip] at h ⊢; obtain ⟨a,h1,rfl⟩:=h;exact ⟨a,h1,rfl⟩
 | .nil,v,h=>by simp only [InstV] at h;subst h;simp [SV.strip,V.strip,InstV]
 | .own j sz t x,v,h=>by
  simp only [InstV] at h
  obtain ⟨a,h1,h2,rfl⟩:=h
  simp only [SV.strip,V.strip]
  split
  ·simp only [InstV];exact ⟨a,h1,rfl⟩
  ·simp only [InstV];exact ⟨a,h1,h2,rfl⟩
 | .ptr n off,v,h=>by simp only [InstV] at h;subst h;simp [SV.strip,V.strip,InstV]
 | .aptr n off m t e inn,v,h=>by simp only [InstV,SV.strip] at h ⊢; obtain ⟨k,j,h1,h2,h3,rfl⟩:=h;exact ⟨k,j,h1,h2,h3,rfl⟩
 | .ref t x off,v,h=>by simp only [InstV,SV.strip] at h ⊢; obtain ⟨a,cs,h1,rfl,h2⟩:=h;exact ⟨a,cs,h1,rfl,h2⟩
 | .fn f cap,v,h=>by simp only [InstV,SV.strip] at h ⊢; obtain ⟨c,rfl,h2⟩:=h;exact ⟨_,rfl,InstL.strip i h2⟩
 | .yld l,v,h=>by simp only [InstV] at h;subst h;simp [SV.strip,V.strip,InstV]
 | .mref n,v,h=>by simp only [InstV] at h;subst h;simp [SV.strip,V.strip,InstV]
 | .mpc k t x,v,h=>by simp only [InstV,SV.strip] at h ⊢; obtain ⟨a,kvs,h1,rfl,h2⟩:=h;exact ⟨a,kvs,h1,rfl,h2⟩
 | .agg cs,v,h=>by simp only [InstV,SV.strip] at h ⊢; obtain ⟨c,rfl,h2⟩:=h;exact ⟨_,rfl,InstL.strip i h2⟩
 | .mix t x os zs,v,h=>by
  simp only [InstV,SV.strip] at h ⊢
  obtain ⟨a,c,h1,rfl,h3,h4,h5⟩:=h
  refine ⟨a,V.stripL i c,h1,rfl,by rw [V.stripL_map,List.length_map];exact h3,InstP.strip i h4,fun j hj hn=>?_⟩
  rw [V.stripL_map,List.getElem?_map,h5 j hj hn]
  cases (enc t a)[j]? <;> rfl
 | .tup cs,v,h=>by simp only [InstV,SV.strip] at h ⊢; obtain ⟨c,rfl,h2⟩:=h;exact ⟨_,rfl,InstL.strip i h2⟩
 | .kd cs,v,h=>by simp only [InstV] at h;subst h;simp [SV.strip,V.strip,InstV]
 | .gd gs x,v,h=>by
  simp only [InstV,SV.strip] at h ⊢
  obtain ⟨b,h1,h0,h2,h3⟩:=h
  refine ⟨b,h1,typed_strip h0,fun e=>InstV.strip i (h2 e),fun e=>?_⟩
  rw [h3 e];rfl
 | .vsl n,v,h=>by
  simp only [InstV] at h;subst h
  simp only [SV.strip,V.strip]
  split <;> simp [InstV]
 | .vpt n t x inn,v,h=>by
  simp only [InstV] at h
  obtain ⟨k,j,h1,h2,rfl⟩:=h
  simp only [SV.strip,V.strip]
  split
  ·simp [InstV]
  ·simp only [InstV];exact ⟨k,j,h1,h2,rfl⟩
 | .dead,v,h=>by simp only [InstV] at h;subst h;simp [SV.strip,V.strip,InstV]
theorem InstL.strip {env:List Val} (i:Name):∀ {xs:List SV} {vs:List V},InstL env xs vs→InstL env (SV.stripL i xs) (V.stripL i vs)
 | [],vs,h=>by simp only [InstL] at h;subst h;simp [SV.stripL,V.stripL,InstL]
 | x::xs,vs,h=>by
  simp only [InstL] at h
  obtain ⟨v,vs',rfl,h2,h3⟩:=h
  simp only [SV.stripL,V.stripL,InstL]
  exact ⟨_,_,rfl,InstV.strip i h2,InstL.strip i h3⟩
theorem InstP.strip {env:List Val} (i:Name):∀ {zs:List SV} {os:List Nat} {c:List V},InstP env os zs c→InstP env os (SV.stripL i zs) (V.stripL i c)
 | [],os,c,h=>h
 | z::zs,os,c,h=>by
  simp only [InstP,SV.stripL] at h ⊢
  obtain ⟨j,os',h1,⟨v,h2,h3⟩,h4⟩:=h
  exact ⟨j,os',h1,⟨v.strip i,by rw [V.stripL_map,List.getElem?_map,h2];rfl,InstV.strip i h3⟩,InstP.strip i h4⟩
end
mutual
def SV.refs (n:Name):SV→Bool
 | .ptr m _=>m==n
 | .aptr m _ _ _ _ _=>m==n
 | .mref m=>m==n
 | .fn _ c=>SV.refsL n c
 | .agg c=>SV.refsL n c
 | .mix _ _ _ zs=>SV.refsL n zs
 | .tup c=>SV.refsL n c
 | .gd _ x=>SV.refs n x
 | _=>false
def SV.refsL (n:Name):List SV→Bool
 | []=>false
 | v::vs=>SV.refs n v || SV.refsL n vs
end
theorem V.refsL_all {n:Name}:∀ {vs:List V},(∀ v∈vs,v.refs n=false)→V.refsL n vs=false
 | [],_=>rfl
 | v::vs,h=>by simp only [V.refsL,h v List.mem_cons_self,Bool.false_or];exact V.refsL_all fun u hu=>h u (List.mem_cons_of_mem _ hu)
mutual
theorem InstV.refs {env:List Val} (n:Name):∀ {x:SV} {v:V},InstV env x v→x.refs n=false→v.refs n=false
 | .e t x,v,h,_=>by simp only [InstV] at h;obtain ⟨a,h1,rfl⟩:=h;rfl
 | .nil,v,h,_=>by simp only [InstV] at h;subst h;rfl
 | .own j sz t x,v,h,_=>by simp only [InstV] at h;obtain ⟨a,h1,h2,rfl⟩:=h;rfl
 | .ptr m off,v,h,hr=>by simp only [InstV] at h;subst h;exact hr
 | .aptr m off _ t e inn,v,h,hr=>by simp only [InstV] at h;obtain ⟨k,j,h1,h2,h3,rfl⟩:=h;exact hr
 | .ref t x off,v,h,_=>by simp only [InstV] at h;obtain ⟨a,cs,h1,rfl,h2⟩:=h;rfl
 | .fn f cap,v,h,hr=>by simp only [InstV] at h;obtain ⟨c,rfl,h2⟩:=h;exact InstL.refs n h2 hr
 | .yld l,v,h,_=>by simp only [InstV] at h;subst h;rfl
 | .mref m,v,h,hr=>by simp only [InstV] at h;subst h;exact hr
 | .mpc k t x,v,h,_=>by simp only [InstV] at h;obtain ⟨a,kvs,h1,rfl,h2⟩:=h;rfl
 | .agg cs,v,h,hr=>by simp only [InstV] at h;obtain ⟨c,rfl,h2⟩:=h;exact InstL.refs n h2 hr
 | .mix t x os zs,v,h,hr=>by
  simp only [InstV] at h
  obtain ⟨a,c,h1,rfl,h3,h4,h5⟩:=h
  refine V.refsL_all (fun v hv=>?_)
  obtain ⟨j,hj,rfl⟩:=List.getElem_of_mem hv
  by_cases hjo:j∈os
  ·exact InstP.refs n h4 hr j hjo _ (List.getElem?_eq_getElem hj)
  ·have:=h5 j (by omega) hjo
   rw [List.getElem?_eq_getElem hj] at this
   cases he:(enc t a)[j]? with
   | none=>rw [he] at this;cases this
   | some d =>
    rw [he] at this
    have e:c[j] = .d d:=by simpa using this
    rw [e];rfl
 | .tup cs,v,h,hr=>by simp only [InstV] at h;obtain ⟨c,rfl,h2⟩:=h;exact InstL.refs n h2 hr
 | .kd cs,v,h,_=>by simp only [InstV] at h;subst h;rfl
 | .gd gs x,v,h,hr=>by
  simp only [InstV] at h
  obtain ⟨b,h1,h0,h2,h3⟩:=h
  cases b with
  | true=>exact InstV.refs n (h2 rfl) hr
  | false=>rw [h3 rfl];rfl
 | .vsl m,v,h,_=>by simp only [InstV] at h;subst h;rfl
 | .vpt m t x inn,v,h,_=>by simp only [InstV] at h;obtain ⟨k,j,h1,h2,rfl⟩:=h;rfl
 | .dead,v,h,_=>by simp only [InstV] at h;subst h;rfl
theorem InstL.refs {env:List Val} (n:Name):∀ {xs:List SV} {vs:List V},InstL env xs vs→SV.refsL n xs=false→V.refsL n vs=false
 | [],vs,h,_=>by simp only [InstL] at h;subst h;rfl
 | x::xs,vs,h,hr=>by
  simp only [InstL] at h
  obtain ⟨v,vs',rfl,h2,h3⟩:=h
  simp only [SV.refsL,V.refsL,Bool.or_eq_false_iff] at hr ⊢
  exact ⟨InstV.refs n h2 hr.1,InstL.refs n h3 hr.2⟩
theorem InstP.refs {env:List Val} (n:Name):∀ {zs:List SV} {os:List Nat} {c:List V},InstP env os zs c→SV.refsL n zs=false→∀ j∈os,∀ v,c[j]? = some v→v.refs n=false
 | [],os,c,h,_=>by simp only [InstP] at h;subst h;simp
 | z::zs,os,c,h,hr=>by
  simp only [InstP,SV.refsL,Bool.or_eq_false_iff] at h hr
  obtain ⟨j,os',rfl,⟨v,h2,h3⟩,h4⟩:=h
  intro k hk u hu
  rcases List.mem_cons.1 hk with rfl | hk
  ·rw [h2] at hu;cases hu;exact InstV.refs n h3 hr.1
  ·exact InstP.refs n h4 hr.2 k hk u hu
end
mutual
def SV.ylds (n:Name):SV→Bool
 | .yld m=>m==n
 | .fn _ c=>SV.yldsL n c
 | .agg c=>SV.yldsL n c
 | .mix _ _ _ zs=>SV.yldsL n zs
 | .tup c=>SV.yldsL n c
 | .gd _ x=>SV.ylds n x
 | _=>false
def SV.yldsL (n:Name):List SV→Bool
 | []=>false
 | v::vs=>SV.ylds n v || SV.yldsL n vs
end
theorem V.yldsL_all {n:Name}:∀ {vs:List V},(∀ v∈vs,v.ylds n=false)→V.yldsL n vs=false
 | [],_=>rfl
 | v::vs,h=>by simp only [V.yldsL,h v List.mem_cons_self,Bool.false_or];exact V.yldsL_all fun u hu=>h u (List.mem_cons_of_mem _ hu)
mutual
theorem InstV.ylds {env:List Val} (n:Name):∀ {x:SV} {v:V},InstV env x v→x.ylds n=false→v.ylds n=false
 | .e t x,v,h,_=>by simp only [InstV] at h;obtain ⟨a,h1,rfl⟩:=h;rfl
 | .nil,v,h,_=>by simp only [InstV] at h;subst h;rfl
 | .own j sz t x,v,h,_=>by simp only [InstV] at h;obtain ⟨a,h1,h2,rfl⟩:=h;rfl
 | .ptr m off,v,h,hr=>by simp only [InstV] at h;subst h;rfl
 | .aptr m off _ t e inn,v,h,hr=>by simp only [InstV] at h;obtain ⟨k,j,h1,h2,h3,rfl⟩:=h;rfl
 | .ref t x off,v,h,_=>by simp only [InstV] at h;obtain ⟨a,cs,h1,rfl,h2⟩:=h;rfl
 | .fn f cap,v,h,hr=>by simp only [InstV] at h;obtain ⟨c,rfl,h2⟩:=h;exact InstL.ylds n h2 hr
 | .yld l,v,h,hr=>by simp only [InstV] at h;subst h;exact hr
 | .mref m,v,h,hr=>by simp only [InstV] at h;subst h;rfl
 | .mpc k t x,v,h,_=>by simp only [InstV] at h;obtain ⟨a,kvs,h1,rfl,h2⟩:=h;rfl
 | .agg cs,v,h,hr=>by simp only [InstV] at h;obtain ⟨c,rfl,h2⟩:=h;exact InstL.ylds n h2 hr
 | .mix t x os zs,v,h,hr=>by
  simp only [InstV] at h
  obtain ⟨a,c,h1,rfl,h3,h4,h5⟩:=h
  refine V.yldsL_all (fun v hv=>?_)
  obtain ⟨j,hj,rfl⟩:=List.getElem_of_mem hv
  by_cases hjo:j∈os
  ·exact InstP.ylds n h4 hr j hjo _ (List.getElem?_eq_getElem hj)
  ·have:=h5 j (by omega) hjo
   rw [List.getElem?_eq_getElem hj] at this
   cases he:(enc t a)[j]? with
   | none=>rw [he] at this;cases this
   | some d =>
    rw [he] at this
    have e:c[j] = .d d:=by simpa using this
    rw [e];rfl
 | .tup cs,v,h,hr=>by simp only [InstV] at h;obtain ⟨c,rfl,h2⟩:=h;exact InstL.ylds n h2 hr
 | .kd cs,v,h,_=>by simp only [InstV] at h;subst h;rfl
 | .gd gs x,v,h,hr=>by
  simp only [InstV] at h
  obtain ⟨b,h1,h0,h2,h3⟩:=h
  cases b with
  | true=>exact InstV.ylds n (h2 rfl) hr
  | false=>rw [h3 rfl];rfl
 | .vsl m,v,h,_=>by simp only [InstV] at h;subst h;rfl
 | .vpt m t x inn,v,h,_=>by simp only [InstV] at h;obtain ⟨k,j,h1,h2,rfl⟩:=h;rfl
 | .dead,v,h,_=>by simp only [InstV] at h;subst h;rfl
theorem InstL.ylds {env:List Val} (n:Name):∀ {xs:List SV} {vs:List V},InstL env xs vs→SV.yldsL n xs=false→V.yldsL n vs=false
 | [],vs,h,_=>by simp only [InstL] at h;subst h;rfl
 | x::xs,vs,h,hr=>by
  simp only [InstL] at h
  obtain ⟨v,vs',rfl,h2,h3⟩:=h
  simp only [SV.yldsL,V.yldsL,Bool.or_eq_false_iff] at hr ⊢
  exact ⟨InstV.ylds n h2 hr.1,InstL.ylds n h3 hr.2⟩
theorem InstP.ylds {env:List Val} (n:Name):∀ {zs:List SV} {os:List Nat} {c:List V},InstP env os zs c→SV.yldsL n zs=false→∀ j∈os,∀ v,c[j]? = some v→v.ylds n=false
 | [],os,c,h,_=>by simp only [InstP] at h;subst h;simp
 | z::zs,os,c,h,hr=>by
  simp only [InstP,SV.yldsL,Bool.or_eq_false_iff] at h hr
  obtain ⟨j,os',rfl,⟨v,h2,h3⟩,h4⟩:=h
  intro k hk u hu
  rcases List.mem_cons.1 hk with rfl | hk
  ·rw [h2] at hu;cases hu;exact InstV.ylds n h3 hr.1
  ·exact InstP.ylds n h4 hr.2 k hk u hu
end
theorem InstF.map {env:List Val} {f:SV→SV} {g:V→V} (hf:∀ x v,InstV env x v→InstV env (f x) (g v)):∀ {xs:List SFr} {vs:List Fr},InstF env xs vs→InstF env (xs.map fun (y:SFr)=>{ y with ts:=y.ts.map fun z=>(z.1,f z.2) }) (vs.map fun (y:Fr)=>{ y with ts:=mapT g y.ts })
 | [],vs,h=>by grind [InstF]
 | a::xs,vs,h=>by
  simp only [InstF] at h
  obtain ⟨u,vs',rfl,h1,h2,h3,h4⟩:=h
  simp only [List.map_cons,InstF]
  exact ⟨_,_,rfl,h1,h2,h3.map hf,h4.map hf⟩
theorem InstF.any {env:List Val} {f:SV→Bool} {g:V→Bool} (hf:∀ x v,InstV env x v→f x=false→g v=false):∀ {xs:List SFr} {vs:List Fr},InstF env xs vs→xs.any (fun (y:SFr)=>y.ts.any fun z=>f z.2)=false→vs.any (fun (y:Fr)=>y.ts.any fun z=>g z.2)=false
 | [],vs,h,_=>by grind [InstF]
 | a::xs,vs,h,ha=>by
  simp only [InstF] at h
  obtain ⟨u,vs',rfl,h1,h2,h3,h4⟩:=h
  simp only [List.any_cons,Bool.or_eq_false_iff] at ha ⊢
  exact ⟨h3.any hf ha.1,h4.any hf ha.2⟩
def Sy.strip (y:Sy) (i:Name):Sy :=
 { y with ts:=y.ts.map fun z=>(z.1,z.2.strip i),sv:=y.sv.map (fun (f:SFr)=>{ f with ts:=f.ts.map fun z=>(z.1,z.2.strip i) }),bx:=y.bx.map (fun x=>(x.1,x.2.strip i)),ow:=y.ow.filter (fun j=>j != i),vc:=y.vc.filter (fun x=>x.1 != i) }
theorem Inst.strip {env:List Val} {y:Sy} {s:Sa} (h:Inst env y s) (i:Name):Inst env (y.strip i) (s.strip i) :=
 ⟨h.g,h.rd,h.n,h.ts.map (fun _ _ h=>h.strip i),h.sv.map (fun _ _ h=>h.strip i),h.bx.map (fun _ _ h=>h.strip i),h.lp,by simp [Sy.strip,Sa.strip,h.ow],h.vc.filter (q:=fun j=>j != i)⟩
def rdsS (y:Sy):List (Option Name):=y.rd::y.sv.map (·.rd)
theorem rds_eq {env:List Val} {y:Sy} {s:Sa} (hI:Inst env y s):rds s=rdsS y:=by
 have:∀ {xs:List SFr} {vs:List Fr},InstF env xs vs→vs.map (·.rd)=xs.map (·.rd):=by
  intro xs
  induction xs with
  | nil=>intro vs h;simp only [InstF] at h;simp [h]
  | cons x xs ih=>intro vs h;simp only [InstF] at h;obtain ⟨g,l',rfl,h1,_,_,h4⟩:=h;simp [h1,ih h4]
 simp only [rds,rdsS,hI.rd,this hI.sv]
def Sy.refs (y:Sy) (n:Name):Bool :=
 protd (rdsS y) n || (y.ts.any (fun x=>x.2.refs n) || y.sv.any (fun f=>f.ts.any (fun x=>x.2.refs n)) || y.bx.any (fun x=>x.2.refs n))
theorem Inst.refs {env:List Val} {y:Sy} {s:Sa} (h:Inst env y s) {n:Name} (hr:y.refs n=false):s.refs n=false:=by
 simp only [Sy.refs,Bool.or_eq_false_iff] at hr
 simp only [Sa.refs,Bool.or_eq_false_iff]
 exact ⟨by rw [rds_eq h];exact hr.1,⟨h.ts.any (fun _ _ h=>h.refs n) hr.2.1.1,h.sv.any (fun _ _ h=>h.refs n) hr.2.1.2⟩,h.bx.any (fun _ _ h=>h.refs n) hr.2.2⟩
def Sy.ylds (y:Sy) (n:Name):Bool :=
 y.ts.any (fun x=>x.2.ylds n) || y.sv.any (fun f=>f.ts.any (fun x=>x.2.ylds n)) || y.bx.any (fun x=>x.2.ylds n)
theorem Inst.ylds {env:List Val} {y:Sy} {s:Sa} (h:Inst env y s) {n:Name} (hr:y.ylds n=false):s.ylds n=false:=by
 simp only [Sy.ylds,Bool.or_eq_false_iff] at hr
 simp only [Sa.ylds,Bool.or_eq_false_iff]
 exact ⟨⟨h.ts.any (fun _ _ h=>h.ylds n) hr.1.1,h.sv.any (fun _ _ h=>h.ylds n) hr.1.2⟩,h.bx.any (fun _ _ h=>h.ylds n) hr.2⟩
def Sy.claim (y:Sy) (i:Name) (sz:Option Nat) (et:Option Ty) (x:SV):Option (SV×Sy) :=
 match x with
 | .nil=>match sz with
  | some z=>match et with
   | some t=>if t.size=z then some (.own i z t (.zero (.sl t)),{ y.strip i with ow:=i::(y.strip i).ow }) else none
   | none=>none
  | none=>some (.nil,y)
 | .gd _ _=>none
 | x=>some (x,y)
theorem Inst.claim {env:List Val} {y y' : Sy} {s:Sa} (h:Inst env y s) {i:Name} {sz:Option Nat} {et:Option Ty} {x x' : SV} {v:V} (hv:InstV env x v) (hc:y.claim i sz et x=some (x',y')) :
  InstV env x' (s.claim i sz v).1∧Inst env y' (s.claim i sz v).2:=by
 have same:∀ (hn:v ≠ .nil),(s.claim i sz v)=(v,s):=fun hn=>by
  simp_all [Sa.claim]
 cases x with
 | nil =>
  simp only [InstV] at hv
  subst hv
  simp only [Sy.claim] at hc
  split at hc
  ·rename_i z
   split at hc
   ·rename_i t
    split at hc
    ·rename_i hz
     cases hc
     refine ⟨?_,?_⟩
     ·simp only [InstV,Sa.claim]
      exact ⟨[],rfl,hz,rfl⟩
     ·have:=h.strip i
      exact ⟨this.g,this.rd,this.n,this.ts,this.sv,this.bx,this.lp,by simp [Sa.claim,this.ow],this.vc⟩
    grind
   grind
  grind [Sa.claim,InstV]
 | gd gs x=>simp [Sy.claim] at hc
 | e t x=>cases hc;grind [InstV]
 | own j z t x=>cases hc;grind [InstV]
 | ptr n off=>cases hc;grind [InstV]
 | aptr n off m t e inn=>cases hc;grind [InstV]
 | ref t x off=>cases hc;grind [InstV]
 | fn f c=>cases hc;grind [InstV]
 | yld l=>cases hc;grind [InstV]
 | mref n=>cases hc;grind [InstV]
 | mpc k t x=>cases hc;grind [InstV]
 | mix t x os zs=>cases hc;grind [InstV]
 | agg c=>cases hc;grind [InstV]
 | tup c=>cases hc;grind [InstV]
 | kd cs=>cases hc;grind [InstV]
 | vsl n=>cases hc;grind [InstV]
 | vpt n t e inn=>cases hc;grind [InstV]
 | dead=>cases hc;grind [InstV]
def tyFs (F:TypeId→Option Ty):List Field→Option Ty
 | []=>some .unit
 | f::fs=>match F f.type,tyFs F fs with
  | some a,some b=>some (.prod a b)
  | _,_=>none
def tyOf (P:Program):Nat→TypeId→Option Ty
 | 0,_=>none
 | d+1,t=>match P.underlying t with
  | some .bool=>some .bool
  | some (.int k)=>some (.int k)
  | some .string=>some .str
  | some (.slice e)=>(tyOf P d e).map .sl
  | some (.array n e)=>(tyOf P d e).map (.arr n)
  | some (.struct fs)=>(tyFs (tyOf P d) fs.toList).map .st
  | some (.func _ _ _)=>some (.cst .nilf)
  | some (.pointer _)=>some (.cst .nilp)
  | some (.map _ _)=>some (.cst .nilm)
  | some (.interface _)=>some (.cst .nili)
  | _=>none
def tyD (P:Program) (t:TypeId):Option Ty:=tyOf P 12 t
def eatN (F:List D→Option (List D)):Nat→List D→Option (List D)
 | 0,l=>some l
 | n+1,l=>match F l with | some l=>eatN F n l | none=>none
def eatZ:Ty→List D→Option (List D)
 | .int k,.v (.int q n)::l=>if k=q∧n=0 then some l else none
 | .bool,.v (.bool false)::l=>some l
 | .str,.v (.string s)::l=>if s=ByteArray.empty then some l else none
 | .cst .nilf,.v .nilFunc::l=>some l
 | .cst .nilp,.v (.pointer none)::l=>some l
 | .cst .nilm,.v (.map none)::l=>some l
 | .cst .nili,.v .nilIface::l=>some l
 | .unit,l=>some l
 | .prod a b,l=>match eatZ a l with | some l=>eatZ b l | none=>none
 | .st a,l=>eatZ a l
 | .arr n t,l=>eatN (eatZ t) n l
 | .sl _,.sl []::l=>some l
 | _,_=>none
theorem eatN_ok {F:List D→Option (List D)} {cs:List D} (h:∀ l r,F l=some r→l=cs++r):∀ {n:Nat} {l r:List D},eatN F n l=some r→l=(List.replicate n cs).flatten++r
 | 0,l,r,e=>by cases e;simp
 | n+1,l,r,e=>by
  simp only [eatN] at e
  split at e
  ·rename_i l' h1
   rw [h _ _ h1,eatN_ok h e];grind
  grind
theorem eatZ_ok:∀ (t:Ty) (l r:List D),eatZ t l=some r→l=enc t t.zero++r:=by
 intro t
 induction t with
 | prod a b iha ihb =>
  grind [eatZ,enc,Ty.zero]
 | st a ih=>intro l r h;exact ih l r h
 | unit=>intro l r h;simp only [eatZ] at h;cases h;rfl
 | arr n t ih =>
  intro l r h
  rw [eatN_ok ih h]
  simp_all [enc,Ty.zero,List.flatMap_def,List.map_const']
 | int k =>
  intro l r h
  rcases l with _ | ⟨d,l⟩
  ·simp [eatZ] at h
  ·rcases d with c | _ | _
   ·cases c <;> simp only [eatZ,reduceCtorEq] at h
    split at h
    ·rename_i hc;obtain ⟨rfl,rfl⟩:=hc;cases h;rfl
    grind
   ·simp [eatZ] at h
   ·simp [eatZ] at h
 | bool =>
  intro l r h
  rcases l with _ | ⟨d,l⟩
  ·simp [eatZ] at h
  ·rcases d with c | _ | _
   ·cases c <;> (try simp only [eatZ,reduceCtorEq] at h)
    rename_i b
    cases b <;> simp only [eatZ,reduceCtorEq] at h
    cases h;rfl
   ·simp [eatZ] at h
   ·simp [eatZ] at h
 | str =>
  intro l r h
  rcases l with _ | ⟨d,l⟩
  ·simp [eatZ] at h
  ·rcases d with c | _ | _
   ·cases c <;> simp only [eatZ,reduceCtorEq] at h
    split at h
    ·rename_i hc;subst hc;cases h;rfl
    grind
   ·simp [eatZ] at h
   ·simp [eatZ] at h
 | cst c =>
  intro l r h
  rcases l with _ | ⟨d,l⟩
  ·cases c <;> simp [eatZ] at h
  ·rcases d with v | _ | _
   ·cases c <;> cases v <;> (try simp only [eatZ,reduceCtorEq] at h)
    ·cases h;rfl
    ·rename_i p;cases p <;> simp only [eatZ,reduceCtorEq] at h
     cases h;rfl
    ·rename_i p;cases p <;> simp only [eatZ,reduceCtorEq] at h
     cases h;rfl
    ·cases h;rfl
   ·cases c <;> simp [eatZ] at h
   grind [eatZ]
 | sl t =>
  intro l r h
  rcases l with _ | ⟨d,l⟩
  ·simp [eatZ] at h
  ·rcases d with v | _ | xs
   ·simp [eatZ] at h
   ·simp [eatZ] at h
   ·cases xs <;> simp only [eatZ,reduceCtorEq] at h
    cases h;rfl
 | mp k t=>intro l r h;simp [eatZ] at h
end Go.Tx
namespace Go.Tx
open Go Go.Ab
def okBs (CS:Calls'):List (B×Ty)→List Val→(List Val→Prop)→Prop
 | [],env,Q=>Q env
 | b::bs,env,Q=>∃ v:Val,v.1=b.2∧b.1.ok CS env v∧okBs CS bs (env++[v]) Q
theorem okBs_app {CS:Calls'}:∀ {as bs:List (B×Ty)} {env:List Val} {Q:List Val→Prop},okBs CS (as++bs) env Q↔okBs CS as env fun e=>okBs CS bs e Q
 | [],_,_,_=>Iff.rfl
 | a::as,_,_,_=>by
  simp only [List.cons_append,okBs]
  exact exists_congr fun v=>and_congr_right fun _=>and_congr_right fun _=>okBs_app
theorem okBs_mono {CS:Calls'}:∀ {bs:List (B×Ty)} {env:List Val} {Q Q' : List Val→Prop},(∀ e,Q e→Q' e)→okBs CS bs env Q→okBs CS bs env Q'
 | [],_,_,_,h,hq=>h _ hq
 | b::bs,_,_,_,h,hq=>by obtain ⟨v,h0,h1,h2⟩:=hq;exact ⟨v,h0,h1,okBs_mono h h2⟩
def asE1 (w:Option Ty):SV→Option (Ty×E)
 | .e t x=>some (t,x)
 | .own _ _ t x=>some (.sl t,x)
 | .nil=>match w with | some (.sl t)=>some (.sl t,.zero (.sl t)) | _=>none
 | _=>none
theorem asE1_ok {env:List Val} {w:Option Ty} {y:SV} {v:V} {t:Ty} {x:E} (h:asE1 w y=some (t,x)) (hv:InstV env y v):∃ a,x.val env=some ⟨t,a⟩∧v.toD1=some (encD t a):=by
 cases y <;> simp only [asE1,reduceCtorEq] at h
 case e u z=>cases h;simp only [InstV] at hv;obtain ⟨a,h1,rfl⟩:=hv;exact ⟨a,h1,rfl⟩
 case own i sz u z=>cases h;simp only [InstV] at hv;obtain ⟨a,h1,h2,rfl⟩:=hv;exact ⟨a,h1,rfl⟩
 case nil =>
  simp only [InstV] at hv;subst hv
  split at h
  ·cases h;exact ⟨[],rfl,rfl⟩
  grind
def chain:Ty→List SV→Option ((Ty×E)×List SV)
 | .unit,l=>some ((.unit,.zero .unit),l)
 | .prod a b,l=>match chain a l with
  | some ((t,x),l)=>match chain b l with
   | some ((u,y),l)=>some ((.prod t u,.p2 .pair x y),l)
   | none=>none
  | none=>none
 | .st a,l=>match chain a l with
  | some ((t,x),l)=>some ((.st t,.p1 .mk x),l)
  | none=>none
 | .arr _ _,_=>none
 | .mp _ _,_=>none
 | w,c::l=>match asE1 (some w) c with
  | some (t,x)=>if t.ag=some false then some ((t,x),l) else none
  | none=>none
 | _,[]=>none
theorem toDs_cons {f:V→Option D} {v:V} {vs:List V} {d:D} {ds:List D} (h1:f v=some d) (h2:toDs f vs=some ds):toDs f (v::vs)=some (d::ds):=by simp [toDs,h1,h2]
theorem toDs_app {f:V→Option D}:∀ {vs us:List V} {ds es:List D},toDs f vs=some ds→toDs f us=some es→toDs f (vs++us)=some (ds++es)
 | [],us,ds,es,h1,h2=>by grind [toDs]
 | v::vs,us,ds,es,h1,h2=>by
  simp only [toDs] at h1
  split at h1
  ·rename_i x xs e1 e2
   cases h1
   exact toDs_cons e1 (toDs_app e2 h2)
  grind
theorem chain_ok {env:List Val}:∀ (w:Ty) (l l' : List SV) (vs:List V) (t:Ty) (x:E),chain w l=some ((t,x),l')→InstL env l vs →
  ∃ a us vs',x.val env=some ⟨t,a⟩∧vs=us++vs' ∧ InstL env l' vs' ∧ toDs V.toD1 us=some (enc t a):=by
 have base:∀ (w:Ty) (l l' : List SV) (vs:List V) (t:Ty) (x:E),(match l with | c::l=>(match asE1 (some w) c with | some (t,x)=>if t.ag=some false then some ((t,x),l) else none | none=>none) | []=>none)=some ((t,x),l')→InstL env l vs →
   ∃ a us vs',x.val env=some ⟨t,a⟩∧vs=us++vs' ∧ InstL env l' vs' ∧ toDs V.toD1 us=some (enc t a):=by
  intro w l l' vs t x h hl
  cases l with
  | nil=>grind
  | cons c l =>
   simp only at h
   split at h
   ·rename_i t' x' h1
    split at h
    ·rename_i ha
     cases h
     simp only [InstL] at hl
     obtain ⟨v,vs',rfl,h2,h3⟩:=hl
     obtain ⟨a,h4,h5⟩:=asE1_ok h1 h2
     obtain ⟨d,e1,e2⟩:=enc_one ha a
     refine ⟨a,[v],vs',h4,rfl,h3,?_⟩
     grind [encD,wrapD,toDs]
    grind
   grind
 intro w
 induction w with
 | unit=>intro l l' vs t x h hl;cases h;exact ⟨(),[],vs,rfl,rfl,hl,rfl⟩
 | prod a b iha ihb =>
  intro l l' vs t x h hl
  simp only [chain] at h
  split at h
  ·rename_i t1 x1 l1 h1
   split at h
   ·rename_i t2 x2 l2 h2
    cases h
    obtain ⟨a1,us1,vs1,e1,rfl,e2,e3⟩:=iha _ _ _ _ _ h1 hl
    obtain ⟨a2,us2,vs2,g1,rfl,g2,g3⟩:=ihb _ _ _ _ _ h2 e2
    refine ⟨(a1,a2),us1++us2,vs2,?_,by simp,g2,?_⟩
    ·simp [E.val,app2,e1,g1,prim2]
    grind [enc,toDs_app]
   grind
  grind
 | st a ih =>
  intro l l' vs t x h hl
  simp only [chain] at h
  split at h
  ·rename_i t1 x1 l1 h1
   cases h
   obtain ⟨a1,us1,vs1,e1,rfl,e2,e3⟩:=ih _ _ _ _ _ h1 hl
   refine ⟨a1,us1,vs1,?_,rfl,e2,e3⟩
   simp [E.val,app1,e1,prim1]
  ·cases h
 | arr n t ih=>intro l l' vs t x h hl;simp [chain] at h
 | mp k t ih=>intro l l' vs t x h hl;simp [chain] at h
 | int k=>intro l l' vs t x h hl;exact base (.int k) l l' vs t x (by cases l <;> exact h) hl
 | bool=>intro l l' vs t x h hl;exact base .bool l l' vs t x (by cases l <;> exact h) hl
 | str=>intro l l' vs t x h hl;exact base .str l l' vs t x (by cases l <;> exact h) hl
 | cst c=>intro l l' vs t x h hl;exact base (.cst c) l l' vs t x (by cases l <;> exact h) hl
 | sl u ih=>intro l l' vs t x h hl;exact base (.sl u) l l' vs t x (by cases l <;> exact h) hl
def patchE:Ty→E→List Nat→List SV→Option (Ty×E)
 | t,x,[],[]=>some (t,x)
 | t,x,o::os,z::zs=>match asE1 (match (prim1 (.part o none) t).map (·.1) with | some u=>some u | none=>none) z with
  | some (u,e)=>if u.ag=some false then (match ty2 (.upd o) t u with
   | some t'=>patchE t' (.p2 (.upd o) x e) os zs
   | none=>none) else none
  | none=>none
 | _,_,_,_=>none
def asE (w:Option Ty):SV→Option (Ty×E)
 | .kd cs=>match w with
  | some t=>if t.ag=some true∧(eatZ t (cs.map constD)).map List.length=some 0 then some (t,.zero t) else none
  | none=>none
 | .mix t x os zs=>match patchE t x os zs with
  | some (u,e)=>if t.ag=some true∧u.ag=some true then some (u,e) else none
  | none=>none
 | .agg cs=>match w with
  | some t=>match chain t cs with
   | some ((u,x),[])=>if u.ag=some true then some (u,x) else none
   | _=>none
  | none=>none
 | y=>asE1 w y
theorem toD_of1 {v:V} {d:D} (h:v.toD1=some d):v.toD=some d:=by cases v <;> simp_all [V.toD,V.toD1]
theorem size_one {t:Ty} (h:t.ag=some false):t.size=1:=by cases t <;> simp_all [Ty.ag,Ty.size]
theorem over_get {α:Type} {cs:List α} {x:α} {o:Nat} (h:o+1≤cs.length) (i:Nat):(over cs [x] o)[i]? = if i=o then some x else cs[i]?:=by
 simp only [over,List.append_assoc]
 by_cases h1:i<o
 ·grind
 grind
theorem toDs_of {f:V→Option D}:∀ {c:List V} {ds:List D},c.length=ds.length→(∀ (i:Nat) (d:D),ds[i]? = some d→∃ v:V,c[i]? = some v∧f v=some d)→toDs f c=some ds
 | [],[],_,_=>rfl
 | v::c,d::ds,hl,h=>by
  obtain ⟨v',h1,h2⟩:=h 0 d rfl
  simp only [List.getElem?_cons_zero,Option.some.injEq] at h1
  subst h1
  exact toDs_cons h2 (toDs_of (by grind) fun i d hd=>h (i+1) d hd)
 | [],_::_,hl,_=>by grind
 | _::_,[],hl,_=>by grind
theorem patchE_ok {env:List Val} {c:List V}:∀ {zs:List SV} {os:List Nat} {t u:Ty} {x e:E} {a:t.den},patchE t x os zs=some (u,e)→x.val env=some ⟨t,a⟩→InstP env os zs c→c.length=t.size →
  (∀ (i:Nat) (d:D),i ∉ os→(enc t a)[i]? = some d→∃ v:V,c[i]? = some v∧v.toD1=some d)→∃ b,e.val env=some ⟨u,b⟩∧u.size=t.size∧toDs V.toD1 c=some (enc u b)
 | [],os,t,u,x,e,a,h,hx,hp,hl,hr=>by
  simp only [InstP] at hp
  subst hp
  cases h
  grind [toDs_of,enc_len]
 | z::zs,os,t,u,x,e,a,h,hx,hp,hl,hr=>by
  simp only [InstP] at hp
  obtain ⟨o,os',rfl,⟨v,hv1,hv2⟩,hp'⟩:=hp
  simp only [patchE] at h
  split at h
  ·rename_i w y hy
   split at h
   ·rename_i hw
    split at h
    ·rename_i t' ht
     obtain ⟨b,e1,e2⟩:=asE1_ok hy hv2
     obtain ⟨f,k1,k2⟩:=val2 ht hx e1
     obtain ⟨g1,g2,g3,g4⟩:=updF_enc _ _ _ _ _ (show updF t w o=some ⟨t',f⟩ from k1)
     obtain ⟨d,d1,d2⟩:=enc_one hw b
     have hb:encD w b=d:=by simp [encD,wrapD,hw,d1]
     have hs:=size_one hw
     obtain ⟨r,r1,r2,r3⟩:=patchE_ok (c:=c) h k2 hp' (by grind) (fun i q hi hq=>by
      grind [over_get,enc_len])
     grind
    grind
   grind
  grind
theorem mix_rest {t:Ty} {a:t.den} {c:List V} {os:List Nat} (h:∀ i,i<t.size→i ∉ os→c[i]? = ((enc t a)[i]?).map V.d):∀ (i:Nat) (d:D),i ∉ os→(enc t a)[i]? = some d→∃ v:V,c[i]? = some v∧v.toD1=some d:=fun i d hi hd=>by
 have hlt:i<t.size:=by grind [enc_len]
 refine ⟨.d d,?_,rfl⟩
 grind
theorem asE_ok {env:List Val} {w:Option Ty} {y:SV} {v:V} {t:Ty} {x:E} (h:asE w y=some (t,x)) (hv:InstV env y v):∃ a,x.val env=some ⟨t,a⟩∧v.toD=some (encD t a):=by
 have one:asE1 w y=some (t,x)→∃ a,x.val env=some ⟨t,a⟩∧v.toD=some (encD t a):=fun h=>by
  grind [asE1_ok,toD_of1]
 cases y with
 | kd cs =>
  simp only [asE] at h
  simp only [InstV] at hv;subst hv
  split at h
  ·split at h
   ·rename_i hc
    cases h
    obtain ⟨r,h1,h2⟩:=Option.map_eq_some_iff.1 hc.2
    have hr:r=[]:=List.eq_nil_of_length_eq_zero h2
    subst hr
    refine ⟨_,rfl,?_⟩
    rw [encD_ag hc.1]
    have:=eatZ_ok _ _ _ h1
    rw [List.append_nil] at this
    rw [this];rfl
   grind
  grind
 | mix t0 x0 os zs =>
  simp only [asE] at h
  simp only [InstV] at hv
  obtain ⟨a,c,h1,rfl,h3,h4,h5⟩:=hv
  split at h
  ·rename_i u e hp
   split at h
   ·rename_i hag
    cases h
    obtain ⟨b,r1,r2,r3⟩:=patchE_ok hp h1 h4 h3 (mix_rest h5)
    grind [V.toD,encD_ag]
   grind
  grind
 | agg cs =>
  simp only [asE] at h
  grind [InstV,chain_ok,InstL,V.toD,encD_ag]
 | _=>exact one h
end Go.Tx
namespace Go.Tx
open Go Go.Ab
def loadE (ag:Bool) (w:Option Ty) (off sz:Nat) (u:Ty) (x:E):Option (Ty×E) :=
 if ag then (match w with
  | some w=>if off=0∧u.size=sz∧w.like u=true∧u.ag=some true then some (u,x) else (match ty1 (.part off (some w)) u with
   | some v=>if v.size=sz then some (v,.p1 (.part off (some w)) x) else none
   | none=>none)
  | none=>none)
 else if sz=1 then (if off=0∧u.ag=some false then some (u,x) else (ty1 (.part off none) u).map fun v=>(v,.p1 (.part off none) x)) else none
theorem loadE_ok {env:List Val} {ag:Bool} {w:Option Ty} {off sz:Nat} {u v:Ty} {x y:E} {a:u.den} (h:loadE ag w off sz u x=some (v,y)) (hx:x.val env=some ⟨u,a⟩) :
  ∃ b,y.val env=some ⟨v,b⟩∧v.ag=some ag∧v.size=sz∧off+sz≤u.size∧enc v b=((enc u a).drop off).take sz:=by
 have whole:∀ (h0:off=0) (h1:u.size=sz),enc u a=((enc u a).drop off).take sz:=fun h0 h1=>by
  grind [enc_len]
 unfold loadE at h
 split at h
 ·rename_i hag
  split at h
  ·rename_i w'
   split at h
   ·grind
   ·split at h
    ·rename_i v' hv
     split at h
     ·rename_i hs
      cases h
      obtain ⟨f,h1,h2⟩:=val1 hv hx
      obtain ⟨k1,k2,k3⟩:=partF_enc _ _ _ _ _ (show partF u off (some w')=some ⟨v,f⟩ from h1)
      grind [hit]
     grind
    grind
  grind
 ·rename_i hag
  have hag' : ag=false:=by grind
  split at h
  ·rename_i hs
   split at h
   ·grind [size_one]
   ·obtain ⟨v',hv,h2⟩:=Option.map_eq_some_iff.1 h
    cases h2
    obtain ⟨f,h1,h2⟩:=val1 hv hx
    obtain ⟨k1,k2,k3⟩:=partF_enc _ _ _ _ _ (show partF u off none=some ⟨v,f⟩ from h1)
    grind [hit,size_one]
  grind
theorem encD_false {t:Ty} (h:t.ag=some false) (x:t.den):enc t x=[encD t x]∧D.flat (encD t x)=true:=by
 obtain ⟨y,e,hf⟩:=enc_one h x
 grind [encD,wrapD]
theorem loadBox_false {d:D} (hf:D.flat d=true) {sz:Nat}:loadBox false 0 sz (.d d) = .d d:=by cases d <;> simp_all [D.flat,loadBox,V.cells]
theorem cells_d (d:D):(V.d d).cells=d.cells.map V.d:=by cases d <;> simp [V.cells,D.cells]
theorem loadBox_e {env:List Val} {ag:Bool} {w:Option Ty} {off sz:Nat} {u v:Ty} {x y:E} {c:V} (h:loadE ag w off sz u x=some (v,y)) (hc:InstV env (.e u x) c) :
  InstV env (.e v y) (loadBox ag off sz c)∧off+sz≤c.cells.length:=by
 simp only [InstV] at hc
 obtain ⟨a,hx,rfl⟩:=hc
 obtain ⟨b,h1,h2,h3,h4,h5⟩:=loadE_ok h hx
 refine ⟨?_,by grind [cells_d,encD_cells,enc_len]⟩
 simp only [InstV]
 refine ⟨b,h1,?_⟩
 cases ag with
 | true =>
  rw [encD_ag h2]
  cases hu:u.ag with
  | none =>
   grind [encD,wrapD,loadBox]
  | some g =>
   cases g with
   | true =>
    grind [encD_ag,loadBox]
   | false =>
    exfalso
    unfold loadE at h
    simp only [if_true] at h
    split at h
    ·split at h
     ·grind
     ·split at h
      ·split at h
       ·rename_i v' hv _
        cases h
        obtain ⟨f,k1,_⟩:=val1 hv hx
        cases u <;> simp [Ty.ag] at hu <;> simp [prim1,partF,hit,Ty.ag] at k1
       grind
      grind
    grind
 | false =>
  obtain ⟨e1,e2⟩:=encD_false h2 b
  cases hu:u.ag with
  | none =>
   have e:encD u a = .agg (enc u a):=by simp [encD,wrapD,hu]
   rw [e];simp only [loadBox]
   have:(enc u a)[off]? = some (encD v b):=by
    rw [e1] at h5
    have h6:=congrArg (fun l:List D=>l[0]?) h5
    rw [List.getElem?_take_of_lt (by have:=size_one h2;omega),List.getElem?_drop] at h6
    simpa using h6.symm
   rw [this];rfl
  | some g =>
   cases g with
   | true =>
    rw [encD_ag hu];simp only [loadBox]
    have:(enc u a)[off]? = some (encD v b):=by
     rw [e1] at h5
     have h6:=congrArg (fun l:List D=>l[0]?) h5
     rw [List.getElem?_take_of_lt (by have:=size_one h2;omega),List.getElem?_drop] at h6
     simpa using h6.symm
    rw [this];rfl
   | false =>
    have hu1:=size_one hu
    have hv1:=size_one h2
    have h0:off=0:=by omega
    obtain ⟨f1,f2⟩:=encD_false hu a
    rw [h0,loadBox_false f2]
    congr 1
    rw [h0,List.drop_zero,f1,e1] at h5
    have h6:=congrArg (fun l:List D=>l[0]?) h5
    rw [List.getElem?_take_of_lt (by omega)] at h6
    simpa using h6.symm
theorem takeD_e {env:List Val} {ag:Bool} {w:Option Ty} {off sz:Nat} {u v:Ty} {x y:E} {cs:List D} {a:u.den} (h:loadE ag w off sz u x=some (v,y)) (hx:x.val env=some ⟨u,a⟩) (hp:((enc u a).drop off) <+: cs) :
  InstV env (.e v y) (takeD ag sz cs)∧sz≤cs.length:=by
 obtain ⟨b,h1,h2,h3,h4,h5⟩:=loadE_ok h hx
 have hl:sz≤((enc u a).drop off).length:=by rw [List.length_drop,enc_len];omega
 have hlen:sz≤cs.length:=Nat.le_trans hl hp.length_le
 have ht:cs.take sz=enc v b:=by
  obtain ⟨r,rfl⟩:=hp
  grind
 refine ⟨?_,hlen⟩
 simp only [InstV]
 refine ⟨b,h1,?_⟩
 cases ag with
 | true =>
  rw [encD_ag h2]
  simp only [takeD,if_true]
  split
  ·grind
  grind
 | false =>
  obtain ⟨e1,e2⟩:=encD_false h2 b
  have hs:=size_one h2
  cases cs with
  | nil=>grind
  | cons c cs =>
   grind [takeD]
def single:SV→Bool
 | .nil | .own _ _ _ _ | .ptr _ _ | .aptr _ _ _ _ _ _ | .ref _ _ _ | .fn _ _ | .yld _ | .mref _ | .vsl _ | .vpt _ _ _ _=>true
 | _=>false
theorem single_cells {env:List Val} {x:SV} {v:V} (h:single x=true) (hv:InstV env x v):v.cells=[v]∧(∀ d,v ≠ .d d):=by
 cases x <;> simp only [single,Bool.false_eq_true] at h <;> simp only [InstV] at hv
 ·subst hv;exact ⟨rfl,by simp⟩
 ·obtain ⟨_,_,_,rfl⟩:=hv;exact ⟨rfl,by simp⟩
 ·subst hv;exact ⟨rfl,by simp⟩
 ·obtain ⟨_,_,_,_,_,rfl⟩:=hv;exact ⟨rfl,by simp⟩
 ·obtain ⟨_,_,_,rfl,_⟩:=hv;exact ⟨rfl,by simp⟩
 ·obtain ⟨_,rfl,_⟩:=hv;exact ⟨rfl,by simp⟩
 ·subst hv;exact ⟨rfl,by simp⟩
 ·subst hv;exact ⟨rfl,by simp⟩
 ·subst hv;exact ⟨rfl,by simp⟩
 ·obtain ⟨_,_,_,_,rfl⟩:=hv;exact ⟨rfl,by simp⟩
def solid:SV→Bool
 | .ptr _ _ | .aptr _ _ _ _ _ _ | .ref _ _ _ | .fn _ _ | .yld _ | .mref _ | .vsl _ | .vpt _ _ _ _=>true
 | _=>false
theorem solid_none {env:List Val} {x:SV} {v:V} (h:solid x=true) (hv:InstV env x v):v.toD1=none∧v.asD=none:=by
 cases x <;> simp only [solid,Bool.false_eq_true] at h <;> simp only [InstV] at hv
 ·subst hv;exact ⟨rfl,rfl⟩
 ·obtain ⟨_,_,_,_,_,rfl⟩:=hv;exact ⟨rfl,rfl⟩
 ·obtain ⟨_,_,_,rfl,_⟩:=hv;exact ⟨rfl,rfl⟩
 ·obtain ⟨_,rfl,_⟩:=hv;exact ⟨rfl,rfl⟩
 ·subst hv;exact ⟨rfl,rfl⟩
 ·subst hv;exact ⟨rfl,rfl⟩
 ·subst hv;exact ⟨rfl,rfl⟩
 ·obtain ⟨_,_,_,_,rfl⟩:=hv;exact ⟨rfl,rfl⟩
theorem toDs_none {f:V→Option D} {env:List Val} {p:SV→Bool} (hp:∀ x v,p x=true→InstV env x v→f v=none):∀ {xs:List SV} {vs:List V},InstL env xs vs→xs.any p=true→toDs f vs=none
 | [],vs,h,ha=>by grind
 | x::xs,vs,h,ha=>by
  simp only [InstL] at h
  obtain ⟨v,vs',rfl,h2,h3⟩:=h
  simp only [List.any_cons,Bool.or_eq_true] at ha
  rcases ha with ha | ha
  ·simp [toDs,hp _ _ ha h2]
  ·have:=toDs_none hp h3 ha
   simp only [toDs,this]
   split <;> simp_all
def groupS (w:Option Ty) (cs:List SV):Option SV :=
 if cs.any solid then some (.agg cs) else (match w with
  | some w=>match chain w cs with
   | some ((u,x),[])=>if u.ag=some true then some (.e u x) else none
   | _=>none
  | none=>none)
theorem groupS_ok {env:List Val} {w:Option Ty} {cs:List SV} {z:SV} {vs:List V} (h:groupS w cs=some z) (hv:InstL env cs vs):InstV env z (mkAgg vs):=by
 unfold groupS at h
 split at h
 ·grind [toDs_none,solid_none,mkAgg,InstV]
 grind [chain_ok,InstL,mkAgg,InstV,encD_ag]
def patchAt (off:Nat):List Nat→List SV→Option SV
 | o::os,z::zs=>if o=off then some z else patchAt off os zs
 | _,_=>none
theorem patchAt_ok {env:List Val} {off:Nat}:∀ {zs:List SV} {os:List Nat} {c:List V},InstP env os zs c→(∀ z,patchAt off os zs=some z→∃ v,c[off]? = some v∧InstV env z v)∧(patchAt off os zs=none→off ∉ os)
 | [],os,c,h=>by grind [InstP,patchAt]
 | z::zs,os,c,h=>by
  simp only [InstP] at h
  obtain ⟨o,os',rfl,⟨v,h2,h3⟩,h4⟩:=h
  simp only [patchAt]
  split
  ·grind
  ·rename_i e
   obtain ⟨k1,k2⟩:=patchAt_ok h4
   exact ⟨k1,fun hn=>by grind⟩
theorem InstP.solid_none {env:List Val} {f:V→Option D} {p:SV→Bool} (hp:∀ x v,p x=true→InstV env x v→f v=none):∀ {zs:List SV} {os:List Nat} {c:List V},InstP env os zs c→zs.any p=true→toDs f c=none
 | [],os,c,h,ha=>by grind
 | z::zs,os,c,h,ha=>by
  simp only [InstP] at h
  obtain ⟨o,os',rfl,⟨v,h2,h3⟩,h4⟩:=h
  simp only [List.any_cons,Bool.or_eq_true] at ha
  rcases ha with ha | ha
  ·have hv:=hp _ _ ha h3
   cases ht:toDs f c with
   | none=>rfl
   | some ds =>
    obtain ⟨k1,k2⟩:=toDs_spec ht
    obtain ⟨hlt,he⟩:=List.getElem?_eq_some_iff.1 h2
    have:=k2 o hlt (by omega)
    rw [he,hv] at this;cases this
  ·exact InstP.solid_none hp h4 ha
def loadC (ag:Bool) (w:Option Ty) (off sz:Nat) (c:SV):Option SV :=
 match c with
 | .e u x=>(loadE ag w off sz u x).map fun r=>.e r.1 r.2
 | .agg cs=>if off+sz≤cs.length then (if ag then groupS w ((cs.drop off).take sz) else if sz=1 then cs[off]? else none) else none
 | .mix t x os zs=>if off+sz≤t.size then (if ag then (if off=0∧sz=t.size then (if zs.any solid then some (.mix t x os zs) else (asE w (.mix t x os zs)).map fun r=>.e r.1 r.2)
   else if os.all (fun o=>decide (o<off∨off+sz≤o))=true then (loadE true w off sz t x).map fun r=>.e r.1 r.2 else none)
   else if sz=1 then (match patchAt off os zs with
    | some z=>some z
    | none=>(loadE false w off 1 t x).map fun r=>.e r.1 r.2) else none) else none
 | .kd cs=>if ag=true∧off=0∧sz=cs.length then (asE w (.kd cs)).map fun r=>.e r.1 r.2 else none
 | c=>if single c=true∧ag=false∧off=0∧sz=1 then some c else none
theorem loadC_ok {env:List Val} {ag:Bool} {w:Option Ty} {off sz:Nat} {y z:SV} {c:V} (h:loadC ag w off sz y=some z) (hc:InstV env y c):InstV env z (loadBox ag off sz c)∧off+sz≤c.cells.length:=by
 have one:(if single y=true∧ag=false∧off=0∧sz=1 then some y else none)=some z→InstV env z (loadBox ag off sz c)∧off+sz≤c.cells.length:=fun h=>by
  split at h
  ·rename_i hh
   cases h
   obtain ⟨h1,h2,h3,h4⟩:=hh
   obtain ⟨e1,e2⟩:=single_cells h1 hc
   simp_all [loadBox]
  grind
 cases y with
 | e u x =>
  grind [loadC,Option.map_eq_some_iff,loadBox_e]
 | agg cs =>
  simp only [loadC] at h
  simp only [InstV] at hc
  obtain ⟨vs,rfl,hl⟩:=hc
  have hlen:=hl.len
  split at h
  ·rename_i hle
   split at h
   ·rename_i hag
    subst hag
    refine ⟨?_,by simp only [V.cells];omega⟩
    exact groupS_ok h hl.drop.take
   ·rename_i hag
    have hag:ag=false:=by grind
    subst hag
    split at h
    ·obtain ⟨v,h1,h2⟩:=hl.get h
     grind [V.cells,loadBox]
    grind
  grind
 | mix t x os zs =>
  simp only [loadC] at h
  have hc':=hc
  simp only [InstV] at hc
  obtain ⟨a,cs,h1,rfl,h3,h4,h5⟩:=hc
  split at h
  ·rename_i hle
   refine ⟨?_,by simp only [V.cells];omega⟩
   split at h
   ·rename_i hag
    subst hag
    split at h
    ·rename_i hw
     obtain ⟨h0,hs⟩:=hw
     subst h0
     have hall:(cs.drop 0).take sz=cs:=by rw [List.drop_zero,List.take_of_length_le (by omega)]
     simp only [loadBox,V.cells,hall]
     split at h
     ·rename_i hsol
      cases h
      have:=InstP.solid_none (f:=V.toD1) (fun x v h1 h2=>(solid_none h1 h2).1) h4 hsol
      simp only [mkAgg,this]
      exact hc'
     ·obtain ⟨⟨u,e⟩,hp,he⟩:=Option.map_eq_some_iff.1 h
      cases he
      simp only [asE] at hp
      split at hp
      ·rename_i u' e' hpp
       split at hp
       ·rename_i hag
        cases hp
        obtain ⟨b,r1,r2,r3⟩:=patchE_ok hpp h1 h4 h3 (mix_rest h5)
        simp only [mkAgg,r3,InstV]
        exact ⟨b,r1,by rw [encD_ag hag.2]⟩
       ·cases hp
      ·cases hp
    ·split at h
     ·rename_i hos
      obtain ⟨⟨u,e⟩,hp,he⟩:=Option.map_eq_some_iff.1 h
      cases he
      obtain ⟨b,r1,r2,r3,r4,r5⟩:=loadE_ok hp h1
      have hds:toDs V.toD1 ((cs.drop off).take sz)=some (((enc t a).drop off).take sz):=by
       refine toDs_of (by simp only [List.length_take,List.length_drop,enc_len,h3]) fun i d hd=>?_
       have hi:i<sz:=by
        have:=(List.getElem?_eq_some_iff.1 hd).1
        simp only [List.length_take] at this;omega
       rw [List.getElem?_take_of_lt hi,List.getElem?_drop] at hd ⊢
       refine ⟨.d d,?_,rfl⟩
       rw [h5 (off+i) (by omega) (fun hm=>by
        have:=List.all_eq_true.1 hos _ hm
        simp only [decide_eq_true_eq] at this;omega),hd];rfl
      simp only [loadBox,V.cells,mkAgg,hds,InstV]
      exact ⟨b,r1,by rw [encD_ag r2,r5]⟩
     ·cases h
   grind [patchAt_ok,loadBox,V.cells,Option.map_eq_some_iff,loadE_ok,encD_false,List.getElem?_cons_zero,InstV]
  grind
 | kd cs =>
  simp only [loadC] at h
  split at h
  ·rename_i hh
   obtain ⟨h1,h2,h3⟩:=hh
   obtain ⟨⟨v,q⟩,h4,h5⟩:=Option.map_eq_some_iff.1 h
   cases h5
   obtain ⟨a,e1,e2⟩:=asE_ok h4 hc
   simp only [InstV] at hc
   subst hc
   subst h1;subst h2
   refine ⟨?_,by simp [V.cells,h3]⟩
   simp only [loadBox,List.length_map,h3,InstV,true_and,if_true]
   refine ⟨a,e1,?_⟩
   simp only [V.toD,V.toD1,Option.some.injEq] at e2
   rw [e2]
  ·cases h
 | _=>exact one h
end Go.Tx
namespace Go.Tx
open Go Go.Ab
def sizeS:SV→Option Nat
 | .e t _=>some t.size
 | .agg cs=>some cs.length
 | .mix t _ _ _=>some t.size
 | .kd cs=>some cs.length
 | y=>if single y then some 1 else none
theorem single_isCells {env:List Val} {x:SV} {v:V} (h:single x=true) (hv:InstV env x v):isCells v=true:=by
 cases x <;> simp only [single,Bool.false_eq_true] at h <;> simp only [InstV] at hv
 ·subst hv;rfl
 ·obtain ⟨_,_,_,rfl⟩:=hv;rfl
 ·subst hv;rfl
 ·obtain ⟨_,_,_,_,_,rfl⟩:=hv;rfl
 ·obtain ⟨_,_,_,rfl,_⟩:=hv;rfl
 ·obtain ⟨_,rfl,_⟩:=hv;rfl
 ·subst hv;rfl
 ·subst hv;rfl
 ·subst hv;rfl
 ·obtain ⟨_,_,_,_,rfl⟩:=hv;rfl
theorem sizeS_ok {env:List Val} {y:SV} {v:V} {n:Nat} (h:sizeS y=some n) (hv:InstV env y v):v.cells.length=n∧isCells v=true:=by
 have one:(if single y=true then some 1 else none)=some n→v.cells.length=n∧isCells v=true:=fun h=>by
  grind [single_cells,single_isCells]
 cases y with
 | e t x=>cases h;simp only [InstV] at hv;obtain ⟨a,_,rfl⟩:=hv;exact ⟨by rw [cells_d,List.length_map,encD_cells,enc_len],rfl⟩
 | agg cs=>cases h;simp only [InstV] at hv;obtain ⟨c,rfl,hl⟩:=hv;exact ⟨hl.len,rfl⟩
 | mix t x os zs=>cases h;simp only [InstV] at hv;obtain ⟨a,c,h1,rfl,h3,h4⟩:=hv;exact ⟨h3,rfl⟩
 | kd cs=>cases h;simp only [InstV] at hv;subst hv;exact ⟨by simp [V.cells],rfl⟩
 | _=>exact one h
def firm:SV→Bool
 | .own _ _ _ _=>true
 | y=>solid y
theorem firm_none {env:List Val} {x:SV} {v:V} (h:firm x=true) (hv:InstV env x v):v.asD=none:=by
 have hs:(∃ i sz t y,x = .own i sz t y)∨solid x=true:=by
  cases x <;> first | exact .inl ⟨_,_,_,_,rfl⟩ | exact .inr h
 rcases hs with ⟨i,sz,t,y,rfl⟩ | hs
 ·simp only [InstV] at hv;obtain ⟨_,_,_,rfl⟩:=hv;rfl
 ·exact (solid_none hs hv).2
def keepP (off n:Nat):List Nat→List SV→List Nat×List SV
 | o::os,z::zs=>match keepP off n os zs with
  | (os',zs')=>if o<off∨off+n≤o then (o::os',z::zs') else (os',zs')
 | _,_=>([],[])
theorem keepP_ok {env:List Val} {off:Nat} {xs:List V}:∀ {zs:List SV} {os:List Nat} {c:List V},InstP env os zs c→off+xs.length≤c.length→InstP env (keepP off xs.length os zs).1 (keepP off xs.length os zs).2 (over c xs off)∧∀ i,i ∉ (keepP off xs.length os zs).1→i∈os→off≤i∧i<off+xs.length
 | [],os,c,h,_=>by grind [InstP,keepP]
 | z::zs,os,c,h,hle=>by
  simp only [InstP] at h
  obtain ⟨o,os',rfl,⟨v,h2,h3⟩,h4⟩:=h
  obtain ⟨k1,k2⟩:=keepP_ok h4 hle
  simp only [keepP]
  split
  ·rename_i hc
   refine ⟨⟨_,_,rfl,⟨v,?_,h3⟩,k1⟩,fun i hi hm=>?_⟩
   ·grind [over]
   grind
  grind
theorem over_out {α:Type} {cs xs:List α} {off i:Nat} (h:i<off∨off+xs.length≤i) (hle:off+xs.length≤cs.length):(over cs xs off)[i]? = cs[i]?:=by
 grind [over]
theorem over_in {α:Type} {cs xs:List α} {off i:Nat} (h:off≤i) (h2:i<off+xs.length) (hle:off+xs.length≤cs.length):(over cs xs off)[i]? = xs[i - off]?:=by
 grind [over]
def storeC (off:Nat) (x c:SV):Option SV :=
 match sizeS x,sizeS c with
 | some n,some m =>
  if off=0∧n=m then some x
  else if off+n≤m then (match c with
   | .e t z=>match x with
    | .e u y=>if t.ag=some true then (ty2 (.upd off) t u).map fun v=>.e v (.p2 (.upd off) z y) else none
    | x=>if firm x=true∧t.ag=some true then some (.mix t z [off] [x]) else none
   | .mix t z os zs=>match x with
    | .e u y=>match ty2 (.upd off) t u with
     | some t'=>if (keepP off u.size os zs).2.any firm=true then some (.mix t' (.p2 (.upd off) z y) (keepP off u.size os zs).1 (keepP off u.size os zs).2)
      else if (keepP off u.size os zs).2.all (fun q=>match q with | .e _ _=>true | .nil=>true | _=>false)=true∧t.ag=some true then (match patchE t' (.p2 (.upd off) z y) (keepP off u.size os zs).1 (keepP off u.size os zs).2 with
       | some (v,e)=>if v.ag=some true then some (.e v e) else none
       | none=>none) else none
     | none=>none
    | x=>if firm x=true then some (.mix t z (off::(keepP off 1 os zs).1) (x::(keepP off 1 os zs).2)) else none
   | _=>none)
  else none
 | _,_=>none
def storeRest (off:Nat) (x c:V):V:=match x,c with
 | .d d,.d (.agg ds)=>.d (.agg (ds.take off++d.cells++ds.drop (off+d.cells.length)))
 | _,_=>mkAggB (c.cells.take off++x.cells++c.cells.drop (off+x.cells.length))
theorem storeBox_eq (off:Nat) (x c:V):storeBox off x c=if off=0∧x.cells.length=c.cells.length then x else storeRest off x c:=rfl
theorem firm_single {x:SV} (h:firm x=true):single x=true:=by cases x <;> simp_all [firm,solid,single]
theorem InstP.asD_ok {env:List Val}:∀ {zs:List SV} {os:List Nat} {c:List V},InstP env os zs c→zs.all (fun q=>match q with | .e _ _=>true | .nil=>true | _=>false)=true→∀ i∈os,∀ v,c[i]? = some v→v.asD=v.toD1
 | [],os,c,h,_=>by grind [InstP]
 | z::zs,os,c,h,ha=>by
  simp only [InstP] at h
  obtain ⟨o,os',rfl,⟨v,h2,h3⟩,h4⟩:=h
  simp only [List.all_cons,Bool.and_eq_true] at ha
  intro i hi u hu
  rcases List.mem_cons.1 hi with rfl | hi
  ·rw [h2] at hu;cases hu
   cases z <;> simp at ha <;> simp only [InstV] at h3
   ·obtain ⟨a,_,rfl⟩:=h3;rfl
   ·subst h3;rfl
  ·exact InstP.asD_ok h4 ha.2 i hi u hu
theorem toDs_congr {f g:V→Option D}:∀ {c:List V},(∀ (i:Nat) v,c[i]? = some v→f v=g v)→toDs f c=toDs g c
 | [],_=>rfl
 | v::c,h=>by
  simp only [toDs]
  rw [h 0 v rfl,toDs_congr fun i u hu=>h (i+1) u hu]
theorem storeC_ok {env:List Val} {off:Nat} {x c z:SV} {v d:V} (h:storeC off x c=some z) (hv:InstV env x v) (hd:InstV env c d) :
  InstV env z (storeBox off v d)∧off+v.cells.length≤d.cells.length∧isCells v=true:=by
 unfold storeC at h
 split at h
 ·rename_i n m hn hm
  obtain ⟨n1,n2⟩:=sizeS_ok hn hv
  obtain ⟨m1,m2⟩:=sizeS_ok hm hd
  split at h
  ·simp_all [storeBox]
  ·rename_i hnc
   split at h
   ·rename_i hle
    refine ⟨?_,by omega,n2⟩
    rw [storeBox_eq,if_neg (by omega)]
    have hlen:off+v.cells.length≤d.cells.length:=by omega
    have alone:∀ {x:SV},firm x=true→InstV env x v→v.cells=[v]∧storeRest off v d=mkAggB (over d.cells [v] off)∧toDs V.asD (over d.cells [v] off)=none:=fun hf hx=>by
     obtain ⟨e1,e2⟩:=single_cells (firm_single hf) hx
     refine ⟨e1,?_,?_⟩
     ·unfold storeRest
      split
      ·grind
      ·rw [e1];rfl
     ·have hn:=firm_none hf hx
      cases ht:toDs V.asD (over d.cells [v] off) with
      | none=>rfl
      | some ds =>
       obtain ⟨k1,k2⟩:=toDs_spec ht
       have hg:(over d.cells [v] off)[off]? = some v:=by rw [over_get (by rw [e1] at hlen;exact hlen),if_pos rfl]
       obtain ⟨hlt,he⟩:=List.getElem?_eq_some_iff.1 hg
       have:=k2 off hlt (by omega)
       rw [he,hn] at this;cases this
    split at h
    ·rename_i t w
     simp only [InstV] at hd
     obtain ⟨b,hb,rfl⟩:=hd
     split at h
     ·rename_i u y
      split at h
      ·rename_i hag
       obtain ⟨t',h1,h2⟩:=Option.map_eq_some_iff.1 h
       subst h2
       simp only [InstV] at hv ⊢
       obtain ⟨a,ha,rfl⟩:=hv
       obtain ⟨f,k1,k2⟩:=val2 h1 hb ha
       obtain ⟨g1,g2,g3,g4⟩:=updF_enc _ _ _ _ _ (show updF t u off=some ⟨t',f⟩ from k1)
       refine ⟨f b a,k2,?_⟩
       rw [encD_ag (t:=t) hag,encD_ag (t:=t') (by rw [g3,hag])]
       simp only [storeRest]
       rw [g4,encD_cells]
       rfl
      ·cases h
     ·split at h
      ·rename_i hc
       cases h
       obtain ⟨e1,e2,e3⟩:=alone hc.1 hv
       rw [e2]
       have hcells:(V.d (encD t b)).cells=(enc t b).map V.d:=by rw [cells_d,encD_cells]
       rw [hcells] at e3 ⊢
       simp only [mkAggB,e3,InstV]
       have hl1:off+1≤((enc t b).map V.d).length:=by rw [e1] at hlen;rw [← hcells];exact hlen
       refine ⟨b,_,hb,rfl,by rw [over_len (by simpa using hl1),List.length_map,enc_len],⟨off,[],rfl,⟨v,by rw [over_get hl1,if_pos rfl],hv⟩,rfl⟩,fun i hi hn=>?_⟩
       simp only [List.mem_singleton] at hn
       rw [over_get hl1,if_neg hn,List.getElem?_map]
      ·cases h
    ·rename_i t w os zs
     simp only [InstV] at hd
     obtain ⟨b,cs,hb,rfl,h3,h4,h5⟩:=hd
     split at h
     ·rename_i u y
      simp only [InstV] at hv
      obtain ⟨a,ha,rfl⟩:=hv
      have hx:(V.d (encD u a)).cells=(enc u a).map V.d:=by rw [cells_d,encD_cells]
      have hxl:((enc u a).map V.d).length=u.size:=by rw [List.length_map,enc_len]
      split at h
      ·rename_i t' ht
       obtain ⟨f,k1,k2⟩:=val2 ht hb ha
       obtain ⟨g1,g2,g3,g4⟩:=updF_enc _ _ _ _ _ (show updF t u off=some ⟨t',f⟩ from k1)
       have hle' : off+((enc u a).map V.d).length≤cs.length:=by rw [hxl,h3];exact g1
       obtain ⟨q1,q2⟩:=keepP_ok (xs:=(enc u a).map V.d) h4 hle'
       rw [hxl] at q1 q2
       have hrest:∀ i,i<t'.size→i ∉ (keepP off u.size os zs).1→(over cs ((enc u a).map V.d) off)[i]? = ((enc t' (f b a))[i]?).map V.d:=by
        intro i hi hn
        rw [g4]
        by_cases hin:off≤i∧i<off+u.size
        ·rw [over_in hin.1 (by rw [hxl];exact hin.2) hle',over_in hin.1 (by rw [enc_len];exact hin.2) (by rw [enc_len,enc_len];exact g1),List.getElem?_map]
        ·rw [over_out (by rw [hxl];omega) hle',over_out (by rw [enc_len];omega) (by rw [enc_len,enc_len];exact g1)]
         exact h5 i (by omega) fun hm=>hin (q2 i hn hm)
       have hst:storeRest off (.d (encD u a)) (.agg cs)=mkAggB (over cs ((enc u a).map V.d) off):=by
        show mkAggB (over cs (V.d (encD u a)).cells off)=_
        rw [hx]
       rw [hst]
       have hol:(over cs ((enc u a).map V.d) off).length=t'.size:=by rw [over_len hle',h3,g2]
       split at h
       ·rename_i hf
        cases h
        have hnone:=InstP.solid_none (f:=V.asD) (fun x v h1 h2=>firm_none h1 h2) q1 hf
        simp only [mkAggB,hnone,InstV]
        exact ⟨f b a,_,k2,rfl,hol,q1,hrest⟩
       ·split at h
        ·rename_i hall
         split at h
         ·rename_i v' e hp
          split at h
          ·rename_i hva
           cases h
           obtain ⟨r,r1,r2,r3⟩:=patchE_ok hp k2 q1 hol (mix_rest hrest)
           have has:toDs V.asD (over cs ((enc u a).map V.d) off)=some (enc v' r):=by
            rw [← r3]
            refine toDs_congr fun i q hq=>?_
            by_cases hm:i∈(keepP off u.size os zs).1
            ·exact InstP.asD_ok q1 hall.1 i hm q hq
            ·have hi:i<t'.size:=by rw [← hol];exact (List.getElem?_eq_some_iff.1 hq).1
             have:=hrest i hi hm
             rw [hq] at this
             cases he:(enc t' (f b a))[i]? with
             | none=>rw [he] at this;cases this
             | some dd=>rw [he] at this;cases this;rfl
           simp only [mkAggB,has,InstV]
           exact ⟨r,r1,by rw [encD_ag hva]⟩
          ·cases h
         ·cases h
        ·cases h
      ·cases h
     ·split at h
      ·rename_i hf
       cases h
       obtain ⟨e1,e2,e3⟩:=alone hf hv
       rw [e2]
       have hcs:(V.agg cs).cells=cs:=rfl
       rw [hcs] at e3 hlen ⊢
       rw [e1] at hlen
       simp only [mkAggB,e3,InstV]
       obtain ⟨q1,q2⟩:=keepP_ok (xs:=[v]) h4 hlen
       simp only [List.length_cons,List.length_nil,Nat.zero_add] at q1 q2
       refine ⟨b,_,hb,rfl,by rw [over_len hlen];exact h3,⟨off,_,rfl,⟨v,by rw [over_get hlen,if_pos rfl],hv⟩,q1⟩,fun i hi hn=>?_⟩
       simp only [List.mem_cons,not_or] at hn
       rw [over_get hlen,if_neg hn.1]
       exact h5 i hi fun hm=>by
        have:=q2 i hn.2 hm
        omega
      ·cases h
    grind
   grind
 grind
end Go.Tx
namespace Go.Tx
open Go Go.Ab
section
variable {P:Program} {S:Sems} {CS:Calls'} {env:List Val} {y:Sy} {s:Sa} {p:Name} {o:Oper} {k:Sa→Prop}
abbrev Nx (o:Oper) (s:Sa) (k:Sa→Prop) (z:SV):List Val→Prop:=fun e=>∀ v,InstV e z v→k (s.put o.dst v)
def isBoolT (P:Program) (t:TypeId):Bool:=match P.underlying t with | some .bool=>true | _=>false
theorem isBoolT_ok {P:Program} {t:TypeId} (h:isBoolT P t=true):P.underlying t=some .bool:=by
 grind [isBoolT]
def asD' (w:Option Ty):SV→Option (Ty×E)
 | .e t x=>some (t,x)
 | .kd cs=>asE w (.kd cs)
 | _=>none
theorem asD'_ok {w:Option Ty} {z:SV} {v:V} {t:Ty} {x:E} (h:asD' w z=some (t,x)) (hv:InstV env z v):∃ a,x.val env=some ⟨t,a⟩∧v = .d (encD t a):=by
 cases z <;> simp only [asD',reduceCtorEq] at h
 case e u q=>grind [InstV]
 grind [asE_ok,InstV,V.toD,V.toD1]
theorem encD_int {q:IntKind} {a:(Ty.int q).den}:encD (.int q) a = .v (.int q a):=rfl
theorem encD_bool {a:Ty.bool.den}:encD .bool a = .v (.bool a):=rfl
theorem encD_str {a:Ty.str.den}:encD .str a = .v (.string a):=rfl
def isOne (c:E):List E→Bool
 | [g]=>g.same c
 | _=>false
theorem isOne_eq {c:E} {gs:List E} (h:isOne c gs=true):gs=[c]:=by
 unfold isOne at h
 split at h
 ·rw [E.same_eq h]
 grind
def pickS (c x y:SV):Option SV :=
 match c with
 | .e .bool (.bool true)=>some x
 | .e .bool (.bool false)=>some y
 | .e .bool c=>match x,y with
  | .gd gs (.e t a),.e u b=>if t=u∧isOne c gs=true then some (.e t (.pick c a b)) else none
  | .e t a,.gd gs (.e u b)=>if t=u∧isOne (.p1 .not c) gs=true then some (.e t (.pick c a b)) else none
  | .e t a,.e u b=>if t=u then some (.e t (.pick c a b)) else none
  | _,_=>none
 | _=>none
theorem holds_one {c:E} {b:Bool} (h:c.val env=some ⟨.bool,b⟩):holds env [c]=some b:=by simp [holds,h]
theorem pickS_ok {c x z w:SV} {cv xv zv:V} (h:pickS c x z=some w) (hc:InstV env c cv) (hx:InstV env x xv) (hz:InstV env z zv) :
  ∃ b,cv = .d (.v (.bool b))∧(b=true→InstV env w xv)∧(b=false→InstV env w zv):=by
 unfold pickS at h
 split at h
 ·cases h
  simp only [InstV] at hc
  obtain ⟨a,h1,rfl⟩:=hc
  cases h1
  exact ⟨true,rfl,fun _=>hx,fun e=>nomatch e⟩
 ·cases h
  simp only [InstV] at hc
  obtain ⟨a,h1,rfl⟩:=hc
  cases h1
  exact ⟨false,rfl,fun e=>(nomatch e),fun _=>hz⟩
 ·rename_i c' _ _
  simp only [InstV] at hc
  obtain ⟨b,hb,rfl⟩:=hc
  refine ⟨b,rfl,?_⟩
  split at h
  ·split at h
   ·rename_i gs t a u d hh
    obtain ⟨rfl,h2⟩:=hh
    cases h
    have hg:=isOne_eq h2
    subst hg
    simp only [InstV,typed] at hx hz ⊢
    obtain ⟨r,k1,⟨a1,k2⟩,k3,k4⟩:=hx
    rw [holds_one hb] at k1
    grind [pick_val]
   grind
  ·split at h
   ·rename_i t a gs u d hh
    obtain ⟨rfl,h2⟩:=hh
    cases h
    have hg:=isOne_eq h2
    subst hg
    simp only [InstV,typed] at hx hz ⊢
    obtain ⟨r,k1,⟨a1,k2⟩,k3,k4⟩:=hz
    have hn:(E.p1 .not c').val env=some ⟨.bool,!b⟩:=by simp [E.val,app1,hb,prim1]
    rw [holds_one hn] at k1
    cases k1
    obtain ⟨a2,k5,rfl⟩:=hx
    refine ⟨fun e=>⟨_,pick_val hb k5 k2,by rw [if_pos e]⟩,fun e=>?_⟩
    obtain ⟨a3,k6,rfl⟩:=k3 (by simp [e])
    rw [k2] at k6;cases k6
    exact ⟨_,pick_val hb k5 k2,by rw [if_neg (by simp [e])]⟩
   ·cases h
  ·split at h
   ·rename_i e
    subst e
    cases h
    simp only [InstV] at hx hz ⊢
    obtain ⟨a1,k1,rfl⟩:=hx
    obtain ⟨a2,k2,rfl⟩:=hz
    exact ⟨fun e=>⟨_,pick_val hb k1 k2,by rw [if_pos e]⟩,fun e=>⟨_,pick_val hb k1 k2,by rw [if_neg (by simp [e])]⟩⟩
   ·cases h
  grind
 grind
def binE (P:Program) (op:BinOp) (t:TypeId) (nv:Nat) (tx:Ty) (x:E) (ty:Ty) (z:E):Option (List (B×Ty)×SV) :=
 match tx,ty with
 | .int k,.int q=>match op with
  | .shl=>some ([(.r2 (.par .shl) x z,.int k)],.e (.int k) (.var nv))
  | .shr=>some ([(.r2 (.par .shr) x z,.int k)],.e (.int k) (.var nv))
  | .quo=>if k=q then some ([(.r2 (.par .quo) x z,.int k)],.e (.int k) (.var nv)) else none
  | .rem=>if k=q then some ([(.r2 (.par .rem) x z,.int k)],.e (.int k) (.var nv)) else none
  | op=>if k=q then (ty2 (.bin op) (.int k) (.int q)).map fun u=>([],.e u (.p2 (.bin op) x z)) else none
 | .bool,.bool=>if isBoolT P t=true then (ty2 (.bin op) .bool .bool).map fun u=>([],.e u (.p2 (.bin op) x z)) else none
 | .str,.str=>(ty2 (.bin op) .str .str).map fun u=>([],.e u (.p2 (.bin op) x z))
 | .st a,.st b=>if Ty.st b=Ty.st a∧(flatKinds P t).isSome=true∧flatKinds P t=kindsT (.st a) then (ty2 (.bin op) (.st a) (.st b)).map fun u=>([],.e u (.p2 (.bin op) x z)) else none
 | .arr n a,.arr m b=>if Ty.arr m b=Ty.arr n a∧(flatKinds P t).isSome=true∧flatKinds P t=kindsT (.arr n a) then (ty2 (.bin op) (.arr n a) (.arr m b)).map fun u=>([],.e u (.p2 (.bin op) x z)) else none
 | _,_=>none
theorem var_last {env:List Val} {v:Val} {n:Nat} (h:env.length=n):(E.var n).val (env++[v])=some v:=by
 simp [E.val,← h]
theorem ok_last {nv:Nat} {t:Ty} {b:B} {Q:List Val→Prop} (hn:env.length=nv) (h:okBs CS [(b,t)] env Q):∃ a:t.den,b.ok CS env ⟨t,a⟩∧Q (env++[⟨t,a⟩])∧(E.var nv).val (env++[⟨t,a⟩])=some ⟨t,a⟩:=by
 grind [okBs,var_last]
theorem binE_ok {op:BinOp} {t:TypeId} {tx tz:Ty} {x z:E} {bs:List (B×Ty)} {w:SV} {a:tx.den} {b:tz.den} {nv:Nat} (h:binE P op t nv tx x tz z=some (bs,w)) (hn:env.length=nv)
  (hx:x.val env=some ⟨tx,a⟩) (hz:z.val env=some ⟨tz,b⟩) (hop:∃ xo yo yt,o.op = .binOp op t xo yo yt∧s.get xo = .d (encD tx a)∧s.get yo = .d (encD tz b)) (hb:okBs CS bs env (Nx o s k w)):evOp P S p o s k:=by
 obtain ⟨xo,yo,yt,hop,ex,ey⟩:=hop
 simp only [evOp,hop,ey,ex]
 have total:∀ {u:Ty},ty2 (.bin op) tx tz=some u→bs=[]→w = .e u (.p2 (.bin op) x z)→∃ f,prim2 (.bin op) tx tz=some ⟨u,f⟩∧k (s.put o.dst (.d (encD u (f a b)))):=by
  intro u hu hbs hw
  subst hbs;subst hw
  obtain ⟨f,h1,h2⟩:=val2 hu hx hz
  exact ⟨f,h1,hb _ (by grind [InstV])⟩
 unfold binE at h
 split at h
 ·rename_i kk q
  split at h
  ·cases h
   obtain ⟨c,h1,h2,h3⟩:=ok_last hn hb
   obtain ⟨a',b',r,c',e1,e2,e3,e4,e5⟩:=h1
   rw [hx] at e1;cases e1
   rw [hz] at e2;cases e2
   cases e3
   grind [encD_int,binV,InstV]
  ·cases h
   obtain ⟨c,h1,h2,h3⟩:=ok_last hn hb
   obtain ⟨a',b',r,c',e1,e2,e3,e4,e5⟩:=h1
   rw [hx] at e1;cases e1
   rw [hz] at e2;cases e2
   cases e3
   grind [encD_int,binV,InstV]
  ·split at h
   ·rename_i hkq
    subst hkq
    cases h
    obtain ⟨c,h1,h2,h3⟩:=ok_last hn hb
    obtain ⟨a',b',r,c',e1,e2,e3,e4,e5⟩:=h1
    rw [hx] at e1;cases e1
    rw [hz] at e2;cases e2
    simp only [rel2,if_true,Option.some.injEq] at e3
    subst e3
    simp only at e4
    split at e4
    ·rename_i hc
     cases e4
     cases e5
     simp only [encD_int,binV]
     exact ⟨trivial,hc,h2 _ (by simp only [InstV];exact ⟨_,h3,rfl⟩)⟩
    ·cases e4
   ·cases h
  ·split at h
   ·rename_i hkq
    subst hkq
    cases h
    obtain ⟨c,h1,h2,h3⟩:=ok_last hn hb
    obtain ⟨a',b',r,c',e1,e2,e3,e4,e5⟩:=h1
    rw [hx] at e1;cases e1
    rw [hz] at e2;cases e2
    simp only [rel2,if_true,Option.some.injEq] at e3
    subst e3
    simp only at e4
    split at e4
    ·rename_i hc
     cases e4
     cases e5
     simp only [encD_int,binV]
     exact ⟨trivial,hc,h2 _ (by simp only [InstV];exact ⟨_,h3,rfl⟩)⟩
    ·cases e4
   ·cases h
  ·split at h
   ·rename_i hkq
    subst hkq
    obtain ⟨u,hu,he⟩:=Option.map_eq_some_iff.1 h
    cases he
    obtain ⟨f,h1,h2⟩:=total hu rfl rfl
    simp only [prim2,if_true] at h1
    simp only [encD_int]
    cases op <;> simp only [binF,reduceCtorEq,Option.some.injEq] at h1 <;> first
     | contradiction
     | (cases h1;simp only [binV,cmpInt,arith];exact ⟨trivial,h2⟩)
   ·cases h
 ·split at h
  ·rename_i ht
   obtain ⟨u,hu,he⟩:=Option.map_eq_some_iff.1 h
   cases he
   obtain ⟨f,h1,h2⟩:=total hu rfl rfl
   simp only [encD_bool,binV]
   refine ⟨isBoolT_ok ht,?_⟩
   cases op <;> simp only [prim2,reduceCtorEq,Option.some.injEq] at h1 <;> (cases h1;exact h2)
  ·cases h
 ·obtain ⟨u,hu,he⟩:=Option.map_eq_some_iff.1 h
  cases he
  obtain ⟨f,h1,h2⟩:=total hu rfl rfl
  simp only [encD_str,binV]
  cases op <;> simp only [prim2,reduceCtorEq,Option.some.injEq] at h1 <;> (cases h1;exact h2)
 ·rename_i a1 b1
  split at h
  ·rename_i hc
   obtain ⟨hab,hs,hks⟩:=hc
   obtain ⟨u,hu,he⟩:=Option.map_eq_some_iff.1 h
   cases he
   obtain ⟨f,h1,h2⟩:=total hu rfl rfl
   cases hab
   obtain ⟨ks,hk⟩:=Option.isSome_iff_exists.1 hs
   rw [encD_ag rfl,encD_ag rfl]
   simp only [hk]
   cases he:eqT a1 with
   | none=>simp [prim2,he] at h1
   | some g =>
    have hq:=eqT_ok (show kindsT a1=some ks by rw [← hks.symm.trans hk];rfl) he a b
    simp only [enc,hq]
    cases op <;> simp only [prim2,he,dif_pos,reduceCtorEq,Option.some.injEq] at h1 <;> (cases h1;exact h2)
  ·cases h
 ·rename_i n1 a1 m1 b1
  split at h
  ·rename_i hc
   obtain ⟨hab,hs,hks⟩:=hc
   obtain ⟨u,hu,he⟩:=Option.map_eq_some_iff.1 h
   cases he
   obtain ⟨f,h1,h2⟩:=total hu rfl rfl
   cases hab
   obtain ⟨ks,hk⟩:=Option.isSome_iff_exists.1 hs
   rw [encD_ag rfl,encD_ag rfl]
   simp only [hk]
   cases he:eqT (.arr n1 a1) with
   | none=>simp [prim2,he] at h1
   | some g =>
    have hq:=eqT_ok (show kindsT (.arr n1 a1)=some ks by rw [← hks,hk]) he a b
    simp only [hq]
    cases op <;> simp only [prim2,he,dif_pos,reduceCtorEq,Option.some.injEq] at h1 <;> (cases h1;exact h2)
  ·cases h
 grind
end
end Go.Tx
namespace Go.Tx
open Go Go.Ab
section
variable {P:Program} {S:Sems} {CS:Calls'} {env:List Val} {y:Sy} {s:Sa} {p:Name} {o:Oper} {k:Sa→Prop}
theorem loadBox_agg {ag:Bool} {off sz:Nat} {v:Ty} {b:v.den} {ds:List D} (h2:v.ag=some ag) (h3:v.size=sz) (h4:off+sz≤ds.length) (h5:enc v b=(ds.drop off).take sz):loadBox ag off sz (.d (.agg ds)) = .d (encD v b):=by
 cases ag with
 | true =>
  grind [encD_ag,loadBox]
 | false =>
  obtain ⟨e1,e2⟩:=encD_false h2 b
  simp only [loadBox]
  have hs:=size_one h2
  have:ds[off]? = some (encD v b):=by
   rw [e1] at h5
   have h6:=congrArg (fun l:List D=>l[0]?) h5
   grind
  rw [this];rfl
def arrE (off m:Nat) (u v:Ty) (x:E):Option E :=
 if off=0∧v = .arr m u then some x else if ty1 (.part off (some (.arr m u))) v=some (.arr m u) then some (.p1 (.part off (some (.arr m u))) x) else none
theorem arrE_ok {off m:Nat} {u v:Ty} {x z:E} {b:v.den} (h:arrE off m u v x=some z) (hx:x.val env=some ⟨v,b⟩) :
  ∃ f:(Ty.arr m u).den,z.val env=some ⟨.arr m u,f⟩∧off+m * u.size≤v.size∧enc (.arr m u) f=((enc v b).drop off).take (m * u.size)∧encD v b = .agg (enc v b):=by
 unfold arrE at h
 split at h
 ·rename_i hc
  cases h
  obtain ⟨h0,h1⟩:=hc
  subst h1
  exact ⟨b,hx,by simp only [Ty.size];omega,by rw [h0,List.drop_zero,List.take_of_length_le (by rw [enc_len];exact Nat.le_refl _)],rfl⟩
 ·split at h
  ·rename_i hc
   cases h
   obtain ⟨f,h1,h2⟩:=val1 hc hx
   obtain ⟨k1,k2,k3⟩:=partF_enc _ _ _ _ _ (show partF v off (some (.arr m u))=some ⟨.arr m u,f⟩ from h1)
   refine ⟨f b,h2,k1,k3 b,?_⟩
   unfold encD wrapD
   split
   ·rename_i ha
    exfalso
    simp only [prim1] at h1
    cases v <;> simp [Ty.ag] at ha <;> simp [partF,hit,Ty.ag] at h1
   rfl
  grind
def loadA (nv:Nat) (bx:List (Name×SV)) (ag:Bool) (w:Option Ty) (sz:Nat):SV→Option (List (B×Ty)×SV)
 | .ptr n off=>match lookN n bx with
  | some c=>(loadC ag w off sz c).map fun z=>([],z)
  | none=>none
 | .ref u x off=>(loadE ag w off sz u x).map fun r=>([],.e r.1 r.2)
 | .aptr n off m u i inn=>match lookN n bx with
  | some (.e v x)=>match arrE off m u v x with
   | some z=>(loadE ag w inn sz u (.var nv)).map fun r=>([(.r2 .aidx z i,u)],.e r.1 r.2)
   | none=>none
  | _=>none
 | _=>none
theorem prefix_drop {α:Type} {a b:List α} (n:Nat) (h:a <+: b):a.drop n <+: b.drop n:=by
 obtain ⟨r,rfl⟩:=h
 grind [List.drop_append]
theorem elem_part {m:Nat} {u w:Ty} {f:Fin m→u.den} {ds:List D} {off inn sz j:Nat} {c:w.den} (hj:j<m) (h1:enc (.arr m u) f=(ds.drop off).take (m * u.size)) (hd:off+m * u.size≤ds.length) (hi:inn+sz≤u.size) (h2:enc w c=((enc u (f ⟨j,hj⟩)).drop inn).take sz) :
  off+j * u.size+inn+sz≤ds.length∧enc w c=(ds.drop (off+j * u.size+inn)).take sz:=by
 have hle:j * u.size+u.size≤m * u.size:=by
  have:=Nat.mul_le_mul_right u.size (show j+1≤m from hj)
  grind
 refine ⟨by omega,?_⟩
 rw [h2,← arr_part f hj hi,h1,List.drop_take,List.take_take,Nat.min_eq_left (by omega),List.drop_drop,Nat.add_assoc]
theorem loadA_ok {t:TypeId} {x:Operand} {ag:Bool} {w:Option Ty} {a z:SV} {bs:List (B×Ty)} (hop:o.op = .load t x) (hag:tagg P t=some ag) (hz:ag=false→tsz P t≠0) (h:loadA y.g.length y.bx ag w (tsz P t) a=some (bs,z))
  (hI:Inst env y s) (ha:InstV env a (s.get x)) (hb:okBs CS bs env (Nx o s k z)):evOp P S p o s k:=by
 simp only [evOp,hop,hag]
 refine ⟨hz,?_⟩
 cases a <;> simp only [loadA,reduceCtorEq] at h <;> simp only [InstV] at ha
 case ptr n off =>
  rw [ha]
  simp only
  split at h
  ·rename_i c hc
   obtain ⟨z',h1,h2⟩:=Option.map_eq_some_iff.1 h
   cases h2
   obtain ⟨c',e1,e2⟩:=(hI.bx.look (n:=n)).1 hc
   simp only [e1]
   obtain ⟨k1,k2⟩:=loadC_ok h1 e2
   exact ⟨k2,hb _ k1⟩
  grind
 case ref u q off =>
  obtain ⟨b,cs,e1,e2,e3⟩:=ha
  rw [e2]
  simp only
  obtain ⟨⟨v,q'⟩,h1,h2⟩:=Option.map_eq_some_iff.1 h
  cases h2
  obtain ⟨k1,k2⟩:=takeD_e h1 e1 e3
  exact ⟨k2,hb _ k1⟩
 case aptr n off m u i inn =>
  obtain ⟨kk,j,e1,e2,e3,e4⟩:=ha
  rw [e4]
  simp only
  split at h
  ·rename_i v q hc
   split at h
   ·rename_i zz hzz
    obtain ⟨⟨v',q'⟩,h1,h2⟩:=Option.map_eq_some_iff.1 h
    cases h2
    obtain ⟨c',g1,g2⟩:=(hI.bx.look (n:=n)).1 hc
    simp only [g1]
    simp only [InstV] at g2
    obtain ⟨b,g3,rfl⟩:=g2
    obtain ⟨f,f1,f2,f3,f4⟩:=arrE_ok hzz g3
    obtain ⟨c,r1,r2,r3⟩:=ok_last hI.len hb
    obtain ⟨a',b',r,c',x1,x2,x3,x4,x5⟩:=r1
    rw [f1] at x1;cases x1
    rw [e1] at x2;cases x2
    simp only [rel2,Option.some.injEq] at x3
    subst x3
    simp only at x4
    rw [dif_pos ⟨e2,e3⟩] at x4
    cases x4;cases x5
    grind [loadE_ok,elem_part,enc_len,V.cells,loadBox_agg,InstV]
   grind
  grind
def strOK:SV→Bool
 | .e t _=>decide (t.ag=some true)
 | .agg _=>true
 | .mix _ _ _ _=>true
 | .kd _=>true
 | _=>false
theorem strOK_ok {x:SV} {v:V} (h:strOK x=true) (hv:InstV env x v):v.isStr=true:=by
 cases x <;> simp only [strOK,Bool.false_eq_true,decide_eq_true_eq] at h <;> simp only [InstV] at hv
 ·obtain ⟨a,_,rfl⟩:=hv;rw [encD_ag h];rfl
 ·obtain ⟨_,rfl,_⟩:=hv;rfl
 ·obtain ⟨_,_,_,rfl,_⟩:=hv;rfl
 ·subst hv;rfl
def addF (off:Nat):SV→Option SV
 | .ptr n o=>some (.ptr n (o+off))
 | .ref u x o=>some (.ref u x (o+off))
 | .aptr n o m u i inn=>some (.aptr n o m u i (inn+off))
 | _=>none
theorem addF_ok {t:TypeId} {x:Operand} {i off:Nat} {ft:TypeId} {a z:SV} (hop:o.op = .fieldAddr t x i) (hf:tfield P t i=some (off,ft)) (hz:tsz P ft≠0) (h:addF off a=some z)
  (ha:InstV env a (s.get x)) (hb:Nx o s k z env):evOp P S p o s k:=by
 simp only [evOp,hop,hf]
 refine ⟨hz,?_⟩
 cases a <;> simp only [addF,reduceCtorEq,Option.some.injEq] at h <;> simp only [InstV] at ha <;> subst h
 case ptr n o'=>grind [InstV]
 case ref u q o' =>
  obtain ⟨b,cs,e1,e2,e3⟩:=ha
  rw [e2]
  refine hb _ ?_
  simp only [InstV]
  refine ⟨b,cs.drop off,e1,rfl,?_⟩
  rw [← List.drop_drop]
  exact prefix_drop off e3
 grind [InstV]
theorem field_ok {t:TypeId} {x:Operand} {i off:Nat} {ft:TypeId} {ag:Bool} {w:Option Ty} {a z:SV} (hop:o.op = .field t x i) (hf:tfield P t i=some (off,ft)) (hag:tagg P ft=some ag) (hz:ag=false→tsz P ft≠0) (hs:strOK a=true) (h:loadC ag w off (tsz P ft) a=some z)
  (ha:InstV env a (s.get x)) (hb:Nx o s k z env):evOp P S p o s k:=by
 grind [evOp,loadC_ok,strOK_ok]
def asS (w:Option Ty):SV→Option (Ty×E)
 | .e (.sl t) x=>some (t,x)
 | .own _ _ t x=>some (t,x)
 | .nil=>match w with | some (.sl t)=>some (t,.zero (.sl t)) | _=>none
 | _=>none
theorem asS_ok {w:Option Ty} {z:SV} {v:V} {t:Ty} {x:E} (h:asS w z=some (t,x)) (hv:InstV env z v):∃ a:List t.den,x.val env=some ⟨.sl t,a⟩∧sliceOf v=some (a.map (encD t)):=by
 unfold asS at h
 split at h
 ·cases h;simp only [InstV] at hv;obtain ⟨a,h1,rfl⟩:=hv;exact ⟨a,h1,rfl⟩
 ·cases h;simp only [InstV] at hv;obtain ⟨a,h1,_,rfl⟩:=hv;exact ⟨a,h1,rfl⟩
 ·split at h
  ·cases h;simp only [InstV] at hv;subst hv;exact ⟨[],rfl,rfl⟩
  grind
 grind
def asI:SV→Option (IntKind×E)
 | .e (.int k) x=>some (k,x)
 | _=>none
theorem asI_ok {z:SV} {v:V} {q:IntKind} {x:E} (h:asI z=some (q,x)) (hv:InstV env z v):∃ i:Int,x.val env=some ⟨.int q,i⟩∧v = .d (.v (.int q i)):=by
 unfold asI at h
 split at h
 ·cases h;simp only [InstV] at hv;obtain ⟨a,h1,rfl⟩:=hv;exact ⟨a,h1,rfl⟩
 grind
abbrev Facts:=List (E×E×Ty×E)
def idxS (nv:Nat) (w:Option Ty) (sz:Nat) (a i:SV):Option (List (B×Ty)×SV) :=
 match asS w a,asI i with
 | some (t,x),some (_,j)=>if t.size=sz∧sz≠0∧t.ag≠none then some ([(.r2 .idx x j,t)],.ref t (.var nv) 0) else none
 | _,_=>none
theorem idxS_ok {t e:TypeId} {x ix:Operand} {w:Option Ty} {a i z:SV} {bs:List (B×Ty)} (hop:o.op = .indexAddr t x ix) (he:telem P t=some e) (h:idxS y.g.length w (tsz P e) a i=some (bs,z))
  (hI:Inst env y s) (ha:InstV env a (s.get x)) (hi:InstV env i (s.get ix)) (hb:okBs CS bs env (Nx o s k z)):evOp P S p o s k:=by
 unfold idxS at h
 split at h
 ·rename_i u q kk j h1 h2
  split at h
  ·rename_i hc
   cases h
   obtain ⟨l,e1,e2⟩:=asS_ok h1 ha
   obtain ⟨n,g1,g2⟩:=asI_ok h2 hi
   obtain ⟨c,r1,r2,r3⟩:=ok_last hI.len hb
   obtain ⟨a',b',r,c',x1,x2,x3,x4,x5⟩:=r1
   rw [e1] at x1;cases x1
   rw [g1] at x2;cases x2
   simp only [rel2,Option.some.injEq] at x3
   subst x3
   simp only at x4
   split at x4
   ·rename_i hn
    cases x5
    obtain ⟨hlt,hget⟩:=List.getElem?_eq_some_iff.1 x4
    simp only [evOp,hop,g2,intOfV,he,e2]
    refine ⟨hc.2.1,hn,by rw [List.length_map];omega,fun d hd=>?_⟩
    rw [List.getElem?_map,x4] at hd
    cases hd
    refine ⟨by rw [encD_cells,enc_len];exact hc.1,r2 _ ?_⟩
    simp only [InstV]
    exact ⟨c,_,r3,rfl,by rw [List.drop_zero,encD_cells];exact List.prefix_refl _⟩
   ·cases x4
  grind
 grind
def aidxS (nv:Nat) (m sz:Nat) (a i:SV) (et:Option Ty):Option (List (B×Ty)×SV) :=
 match asI i with
 | some (q,j)=>match a with
  | .ptr n off=>match j with
   | .int _ c=>if 0≤c∧c.toNat<m then some ([],.ptr n (off+c.toNat * sz)) else none
   | j=>match et with
    | some t=>if t.size=sz then some ([(.guard (.pick (.p1 .nonneg j) (.p2 (.bin .lss) j (.int q m)) (.bool false)),.unit)],.aptr n off m t j 0) else none
    | none=>none
  | .ref u x off=>match et with
   | some t=>if t.size=sz then (arrE off m t u x).map fun z=>([(.r2 .aidx z j,t)],.ref t (.var nv) 0) else none
   | none=>none
  | _=>none
 | none=>none
def indexV (nv:Nat) (m:Nat) (ag:Bool) (sz:Nat) (a i:SV):Option (List (B×Ty)×SV) :=
 match asI i with
 | some (_,j)=>match a with
  | .e (.arr m' u) x=>if m' = m∧u.size=sz∧u.ag=some ag then some ([(.r2 .aidx x j,u)],.e u (.var nv)) else none
  | _=>none
 | none=>none
theorem indexV_ok {t e:TypeId} {x ix:Operand} {m:Nat} {ag:Bool} {a i z:SV} {bs:List (B×Ty)} (hop:o.op = .index t x ix) (ht:tarr P t=some (m,e)) (hag:tagg P e=some ag) (h:indexV y.g.length m ag (tsz P e) a i=some (bs,z))
  (hI:Inst env y s) (ha:InstV env a (s.get x)) (hi:InstV env i (s.get ix)) (hb:okBs CS bs env (Nx o s k z)):evOp P S p o s k:=by
 unfold indexV at h
 split at h
 ·rename_i q j h1
  obtain ⟨n,g1,g2⟩:=asI_ok h1 hi
  simp only [evOp,hop,g2,intOfV,ht,hag]
  split at h
  ·rename_i m' u xe
   split at h
   ·rename_i hc
    obtain ⟨hm,hsz,hua⟩:=hc
    subst hm
    cases h
    simp only [InstV] at ha
    obtain ⟨f,f1,f2⟩:=ha
    rw [f2]
    obtain ⟨c,r1,r2,r3⟩:=ok_last hI.len hb
    obtain ⟨a',b',r,c',x1,x2,x3,x4,x5⟩:=r1
    rw [f1] at x1;cases x1
    rw [g1] at x2;cases x2
    simp only [rel2,Option.some.injEq] at x3
    subst x3
    simp only at x4
    split at x4
    ·rename_i hj
     cases x4;cases x5
     have hle:n.toNat * u.size+u.size≤m' * u.size:=by
      have:=Nat.mul_le_mul_right u.size (show n.toNat+1≤m' from hj.2)
      grind
     have hag1:encD (.arr m' u) f = .agg (enc (.arr m' u) f):=encD_ag rfl f
     rw [hag1]
     have hlen:(enc (.arr m' u) f).length=m' * u.size:=enc_len _ _
     refine ⟨fun e0=>?_,hj.1,by omega,by grind [V.cells],rfl,?_⟩
     ·grind [size_one]
     ·have hp:=arr_part f hj.2 (o:=0) (m:=u.size) (by omega)
      grind [loadBox_agg,enc_len,InstV]
    grind
   grind
  grind
 grind
def strV (nv:Nat) (a i:SV):Option (List (B×Ty)×SV) :=
 match asI i,a with
 | some (_,j),.e .str x=>some ([(.r2 .sidx x j,.int .u8)],.e (.int .u8) (.var nv))
 | _,_=>none
theorem strV_ok {t:TypeId} {x ix:Operand} {a i z:SV} {bs:List (B×Ty)} (hop:o.op = .index t x ix) (ht:tarr P t=none) (hu:P.underlying t=some .string) (h:strV y.g.length a i=some (bs,z))
  (hI:Inst env y s) (ha:InstV env a (s.get x)) (hi:InstV env i (s.get ix)) (hb:okBs CS bs env (Nx o s k z)):evOp P S p o s k:=by
 unfold strV at h
 split at h
 ·rename_i q j xe h1
  cases h
  obtain ⟨n,g1,g2⟩:=asI_ok h1 hi
  simp only [InstV] at ha
  obtain ⟨b,b1,b2⟩:=ha
  obtain ⟨r,r1,r2,r3⟩:=ok_last hI.len hb
  obtain ⟨a',b',rr,cc,x1,x2,x3,x4,x5⟩:=r1
  rw [b1] at x1;cases x1
  rw [g1] at x2;cases x2
  simp only [rel2,Option.some.injEq] at x3
  subst x3
  simp only at x4
  split at x4
  ·rename_i h0
   obtain ⟨c,c1,rfl⟩:=Option.map_eq_some_iff.1 x4
   cases x5
   simp only [evOp,hop,g2,intOfV,ht,hu,b2]
   exact ⟨h0,c,c1,r2 _ ⟨_,r3,rfl⟩⟩
  ·cases x4
 grind
theorem aidxS_ok {t e:TypeId} {x ix:Operand} {m:Nat} {a i z:SV} {et:Option Ty} {bs:List (B×Ty)} (hop:o.op = .indexAddr t x ix) (he:telem P t=none) (ht:tarr P t=some (m,e)) (hm:2≤m) (hsz:tsz P e≠0) (h:aidxS y.g.length m (tsz P e) a i et=some (bs,z))
  (hI:Inst env y s) (ha:InstV env a (s.get x)) (hi:InstV env i (s.get ix)) (hb:okBs CS bs env (Nx o s k z)):evOp P S p o s k:=by
 unfold aidxS at h
 split at h
 ·rename_i q j h1
  obtain ⟨n,g1,g2⟩:=asI_ok h1 hi
  simp only [evOp,hop,g2,intOfV,he,ht]
  split at h
  ·rename_i nm off
   simp only [InstV] at ha
   split at h
   ·rename_i kk c
    split at h
    ·rename_i hc
     cases h
     simp only [E.val] at g1
     split at g1
     ·cases g1
      refine ⟨hsz,hc.1,by omega,hm,?_⟩
      rw [ha]
      exact hb _ (by rfl)
     grind
    grind
   ·split at h
    ·rename_i u
     split at h
     ·rename_i hs
      cases h
      simp only [okBs] at hb
      obtain ⟨v,v1,⟨v2,v3⟩,v4⟩:=hb
      have hg:0≤n∧n<m:=by
       have hA:(E.p1 .nonneg j).val env=some ⟨.bool,decide (0≤n)⟩:=by simp [E.val,app1,g1,prim1]
       by_cases hin:inR q (m:Int)=true
       ·have hB:(E.p2 (.bin .lss) j (.int q m)).val env=some ⟨.bool,decide (n<(m:Int))⟩:=by simp [E.val,app2,g1,hin,prim2,binF]
        rw [pick_val hA hB (a2:=false) rfl] at v2
        by_cases h0:0≤n
        ·simp [h0] at v2;exact ⟨h0,v2⟩
        ·simp [h0] at v2
       ·simp [E.val,app2,g1,hin,appP] at v2
      grind [InstV,E.val_app]
     grind
    grind
  ·rename_i u q' off
   split at h
   ·rename_i u'
    split at h
    ·rename_i hs
     obtain ⟨zz,h3,h4⟩:=Option.map_eq_some_iff.1 h
     cases h4
     simp only [InstV] at ha
     obtain ⟨b,cs,e1,e2,e3⟩:=ha
     obtain ⟨f,f1,f2,f3,f4⟩:=arrE_ok h3 e1
     obtain ⟨c,r1,r2,r3⟩:=ok_last hI.len hb
     obtain ⟨a',b',r,c',x1,x2,x3,x4,x5⟩:=r1
     rw [f1] at x1;cases x1
     rw [g1] at x2;cases x2
     simp only [rel2,Option.some.injEq] at x3
     subst x3
     simp only at x4
     split at x4
     ·rename_i hn
      cases x4;cases x5
      refine ⟨hsz,hn.1,by omega,hm,?_⟩
      rw [e2]
      refine r2 _ ?_
      simp only [InstV]
      refine ⟨_,_,r3,rfl,?_⟩
      rw [List.drop_zero]
      have h6:=elem_part (inn:=0) (sz:=u'.size) (w:=u') (c:=f ⟨n.toNat,hn.2⟩) (ds:=enc u b) hn.2 f3 (by rw [enc_len];exact f2) (by omega) (by rw [List.drop_zero,List.take_of_length_le (by rw [enc_len];exact Nat.le_refl _)])
      rw [h6.2,Nat.add_zero,← List.drop_drop,← hs]
      exact (List.take_prefix _ _).trans (prefix_drop _ e3)
     ·cases x4
    ·cases h
   ·cases h
  grind
 grind
end
end Go.Tx
namespace Go.Tx
open Go Go.Ab
section
variable {P:Program} {S:Sems} {CS:Calls'} {env:List Val} {y:Sy} {s:Sa} {p:Name} {o:Oper} {k:Sa→Prop}
def loE:Option SV→Option E
 | some l=>(asI l).map fun r=>r.2
 | none=>some (.int .i64 0)
def hiE (x:E):Option SV→Option E
 | some l=>(asI l).map fun r=>r.2
 | none=>some (.p1 .len x)
def slicedS (a:SV) (hi:Option SV) (sz:Nat) (t:Ty) (x:E):SV:=match a,hi with
 | .own i z _ _,none=>if z=sz then .own i z t x else .e (.sl t) x
 | _,_=>.e (.sl t) x
def slcS (nv:Nat) (w:Option Ty) (sz:Nat) (a:SV) (lo hi:Option SV):Option (List (B×Ty)×SV) :=
 match asS w a with
 | some (t,x)=>match loE lo,hiE x hi with
  | some l,some h=>if t.size=sz∧sz≠0 then some ([(.r3 .slc x l h,.sl t)],slicedS a hi sz t (.var nv)) else none
  | _,_=>none
 | none=>none
def optOK (env:List Val) (s:Sa):Option Operand→Option SV→Prop
 | some l,some c=>InstV env c (s.get l)
 | none,none=>True
 | _,_=>False
theorem slicedS_ok {env' : List Val} {a:SV} {v:V} {hi:Option Operand} {his:Option SV} {w:Option Ty} {t:Ty} {q x:E} {sz:Nat} {l:List t.den} (ha:asS w a=some (t,q)) (hv:InstV env a v) (hh:optOK env s hi his) (hz:t.size=sz) (hx:x.val env' = some ⟨.sl t,l⟩) :
  InstV env' (slicedS a his sz t x) (slicedV v hi sz (l.map (encD t))):=by
 have he:InstV env' (.e (.sl t) x) (.d (.sl (l.map (encD t)))):=by simp only [InstV];exact ⟨l,hx,by rw [encD_sl]⟩
 cases a with
 | own i z t0 x0 =>
  simp only [InstV] at hv
  obtain ⟨al,h1,h2,rfl⟩:=hv
  cases hi with
  | none =>
   cases his with
   | some c=>exact hh.elim
   | none =>
    simp only [slicedS,slicedV]
    split
    ·rename_i e;subst e
     simp only [InstV];exact ⟨l,hx,hz,rfl⟩
    ·exact he
  | some h' =>
   cases his with
   | none=>exact hh.elim
   | some c=>exact he
 | gd gs x0=>simp [asS] at ha
 | e t0 x0=>simp only [InstV] at hv;obtain ⟨al,h1,rfl⟩:=hv;exact he
 | nil=>simp only [InstV] at hv;subst hv;exact he
 | kd cs=>simp only [InstV] at hv;subst hv;exact he
 | _=>simp [asS] at ha
theorem slcS_ok {t e:TypeId} {x:Operand} {lo hi:Option Operand} {w:Option Ty} {a z:SV} {los his:Option SV} {bs:List (B×Ty)} (hop:o.op = .slice t x lo hi none) (he:telem P t=some e) (h:slcS y.g.length w (tsz P e) a los his=some (bs,z))
  (hI:Inst env y s) (ha:InstV env a (s.get x)) (hlo:optOK env s lo los) (hhi:optOK env s hi his)
  (hb:okBs CS bs env (Nx o s k z)):evOp P S p o s k:=by
 unfold slcS at h
 split at h
 ·rename_i u q h1
  split at h
  ·rename_i l hh h2 h3
   split at h
   ·rename_i hc
    cases h
    obtain ⟨xs,e1,e2⟩:=asS_ok h1 ha
    have core:∀ (q1 q2:IntKind) (i j:Int),l.val env=some ⟨.int q1,i⟩→hh.val env=some ⟨.int q2,j⟩→0≤i∧i≤j∧j≤xs.length∧k (s.put o.dst (slicedV (s.get x) hi (tsz P e) (((xs.map (encD u)).take j.toNat).drop i.toNat))):=by
     intro q1 q2 i j l1 m1
     obtain ⟨c,r1,r2,r3⟩:=ok_last hI.len hb
     obtain ⟨a',b',d',r,c',x1,x2,x3,x4,x5,x6⟩:=r1
     rw [e1] at x1;cases x1
     rw [l1] at x2;cases x2
     rw [m1] at x3;cases x3
     simp only [rel3,Option.some.injEq] at x4
     subst x4
     simp only at x5
     split at x5
     ·rename_i hn
      cases x5;cases x6
      refine ⟨hn.1,hn.2.1,hn.2.2,r2 _ ?_⟩
      have:=slicedS_ok (hi:=hi) h1 ha hhi hc.1 r3
      rw [List.map_drop,List.map_take] at this
      exact this
     ·cases x5
    have hall:∀ d∈xs.map (encD u),d.cells.length=tsz P e:=fun d hd=>by
     obtain ⟨z,_,rfl⟩:=List.mem_map.1 hd
     rw [encD_cells,enc_len];exact hc.1
    cases lo with
    | none =>
     cases los with
     | some c=>exact hlo.elim
     | none =>
      cases h2
      cases hi with
      | none =>
       cases his with
       | some c=>exact hhi.elim
       | none =>
        cases h3
        obtain ⟨k1,k2,k3,k4⟩:=core .i64 .i64 0 xs.length rfl (by simp [E.val,app1,e1,prim1])
        simp only [evOp,hop,he,e2]
        rw [List.length_map]
        exact ⟨hc.2,k1,k2,k3,fun _=>hall,k4⟩
      | some hi =>
       cases his with
       | none=>exact hhi.elim
       | some c =>
        obtain ⟨⟨q2,z'⟩,h4,h5⟩:=Option.map_eq_some_iff.1 h3
        simp only at h5;subst h5
        obtain ⟨j,g1,g2⟩:=asI_ok h4 hhi
        obtain ⟨k1,k2,k3,k4⟩:=core .i64 q2 0 j rfl g1
        simp only [evOp,hop,he,e2,g2,intOfV]
        rw [List.length_map]
        exact ⟨hc.2,k1,k2,k3,fun _=>hall,k4⟩
    | some lo =>
     cases los with
     | none=>exact hlo.elim
     | some c1 =>
      obtain ⟨⟨q1,z1⟩,h6,h7⟩:=Option.map_eq_some_iff.1 h2
      simp only at h7;subst h7
      obtain ⟨i,f1,f2⟩:=asI_ok h6 hlo
      cases hi with
      | none =>
       cases his with
       | some c=>exact hhi.elim
       | none =>
        cases h3
        obtain ⟨k1,k2,k3,k4⟩:=core q1 .i64 i xs.length f1 (by simp [E.val,app1,e1,prim1])
        simp only [evOp,hop,he,e2,f2,intOfV]
        rw [List.length_map]
        exact ⟨hc.2,k1,k2,k3,fun _=>hall,k4⟩
      | some hi =>
       cases his with
       | none=>exact hhi.elim
       | some c =>
        obtain ⟨⟨q2,z'⟩,h4,h5⟩:=Option.map_eq_some_iff.1 h3
        simp only at h5;subst h5
        obtain ⟨j,g1,g2⟩:=asI_ok h4 hhi
        obtain ⟨k1,k2,k3,k4⟩:=core q1 q2 i j f1 g1
        simp only [evOp,hop,he,e2,f2,g2,intOfV]
        rw [List.length_map]
        exact ⟨hc.2,k1,k2,k3,fun _=>hall,k4⟩
   ·cases h
  ·cases h
 ·cases h
def notE:E→E
 | .bool b=>.bool (!b)
 | x=>.p1 .not x
theorem notE_ok {env:List Val} {x:E} {b:Bool} (h:x.val env=some ⟨.bool,b⟩):(notE x).val env=some ⟨.bool,!b⟩:=by
 unfold notE
 split
 ·cases h;rfl
 ·simp [E.val,app1,h,prim1]
def unS (op:UnOp):SV→Option SV
 | .e .bool x=>match op with | .not=>some (.e .bool (notE x)) | _=>none
 | .e (.int q) x=>match op with | .neg=>some (.e (.int q) (.p1 .neg x)) | _=>none
 | _=>none
theorem unS_ok {op:UnOp} {t:TypeId} {x:Operand} {a z:SV} (hop:o.op = .unOp op t x) (h:unS op a=some z) (ha:InstV env a (s.get x)) (hb:Nx o s k z env):evOp P S p o s k:=by
 simp only [evOp,hop]
 unfold unS at h
 split at h
 ·split at h
  ·cases h
   simp only [InstV] at ha
   obtain ⟨b,h1,h2⟩:=ha
   rw [h2,encD_bool]
   exact hb _ (by simp only [InstV];exact ⟨!b,notE_ok h1,rfl⟩)
  ·cases h
 ·split at h
  ·rename_i q _ _
   cases h
   simp only [InstV] at ha
   obtain ⟨b,h1,h2⟩:=ha
   rw [h2,encD_int]
   exact hb _ (by simp only [InstV];exact ⟨q.wrap (0 - b),by simp [E.val,app1,h1,prim1],rfl⟩)
  ·cases h
 ·cases h
def convS (kd:IntKind):SV→Option SV
 | .e (.int q) x=>if q=kd then some (.e (.int q) x) else some (.e (.int kd) (.p1 (.conv kd) x))
 | _=>none
theorem wrap_in {q:IntKind} {n:Int} (h:inR q n=true):q.wrap n=n:=by
 cases q <;> simp only [inR,decide_eq_true_eq] at h <;> simp only [IntKind.wrap,IntKind.bits,IntKind.signed] <;> simp <;> omega
theorem convS_ok {src t:TypeId} {x:Operand} {kd:IntKind} {a z:SV} (hop:o.op = .convert src t x) (ht:P.underlying t=some (.int kd)) (hs:(P.underlying src).isSome=true) (hw:EnvWf env) (h:convS kd a=some z) (ha:InstV env a (s.get x)) (hb:Nx o s k z env):evOp P S p o s k:=by
 unfold convS at h
 split at h
 ·rename_i q e
  simp only [InstV] at ha
  obtain ⟨b,h1,h2⟩:=ha
  simp only [evOp,hop,ht,h2,encD_int]
  refine ⟨hs,?_⟩
  split at h
  ·rename_i e
   subst e
   cases h
   refine hb _ ?_
   simp only [InstV]
   exact ⟨b,h1,by rw [wrap_in (wf_int.1 (E.val_wf hw h1))];rfl⟩
  ·cases h
   exact hb _ (by simp only [InstV];exact ⟨kd.wrap b,by simp [E.val,app1,h1,prim1],rfl⟩)
 ·cases h
def nilS (op:BinOp) (a:SV):Option (List (B×Ty)×SV) :=
 match a with
 | .nil=>match op with | .eql=>some ([],.e .bool (.bool true)) | .neq=>some ([],.e .bool (.bool false)) | _=>none
 | a=>match asS none a with
  | some (_,x)=>match op with
   | .eql=>some ([(.guard (.p1 .some1 x),.unit)],.e .bool (.bool false))
   | .neq=>some ([(.guard (.p1 .some1 x),.unit)],.e .bool (.bool true))
   | _=>none
  | none=>none
theorem nilS_ok {op:BinOp} {t e:TypeId} {x z yt} {a w:SV} {bs:List (B×Ty)} (hop:o.op = .binOp op t x z yt) (ht:telem P t=some e) (hz:s.get z = .nil) (h:nilS op a=some (bs,w)) (ha:InstV env a (s.get x)) (hb:okBs CS bs env (Nx o s k w)):evOp P S p o s k:=by
 simp only [evOp,hop,hz,ht]
 unfold nilS at h
 split at h
 ·simp only [InstV] at ha
  simp only [ha]
  split at h
  ·cases h;exact hb _ (by simp only [InstV];exact ⟨true,rfl,rfl⟩)
  ·cases h;exact hb _ (by simp only [InstV];exact ⟨false,rfl,rfl⟩)
  ·cases h
 ·split at h
  ·rename_i u q h1
   obtain ⟨xs,e1,e2⟩:=asS_ok h1 ha
   have key:∀ (r:Bool),bs=[(.guard (.p1 .some1 q),.unit)]→w = .e .bool (.bool r)→xs≠[]∧k (s.put o.dst (.d (.v (.bool r)))):=by
    intro r h3 h4
    subst h3;subst h4
    simp only [okBs] at hb
    obtain ⟨v,v1,⟨v2,v3⟩,v4⟩:=hb
    have:(E.p1 .some1 q).val env=some ⟨.bool,!xs.isEmpty⟩:=by simp [E.val,app1,e1,prim1]
    rw [this] at v2
    cases hx:xs.isEmpty with
    | true=>rw [hx] at v2;cases v2
    | false =>
     refine ⟨fun e=>by rw [e] at hx;simp at hx,v4 _ (by simp only [InstV];exact ⟨r,rfl,rfl⟩)⟩
   have hs:(s.get x = .d (.sl (xs.map (encD u)))∨∃ i z,s.get x = .own i z (xs.map (encD u))):=by
    have:=e2
    unfold asS at h1
    split at h1
    ·simp only [InstV] at ha;obtain ⟨b,_,hb'⟩:=ha;rw [hb'] at e2 ⊢; simp only [encD_sl,sliceOf,Option.some.injEq] at e2 ⊢; exact .inl (by rw [e2])
    ·simp only [InstV] at ha;obtain ⟨b,_,_,hb'⟩:=ha;rw [hb'] at e2 ⊢; simp only [sliceOf,Option.some.injEq] at e2;exact .inr ⟨_,_,by rw [e2]⟩
    ·cases h1
    ·cases h1
   have hne:∀ {r:Bool},xs≠[]→(xs.map (encD u)=[]→r=true):=fun hx he=>by
    have:=List.map_eq_nil_iff.1 he;exact absurd this hx
   split at h
   ·cases h
    obtain ⟨k1,k2⟩:=key false rfl rfl
    rcases hs with hs | ⟨i,zz,hs⟩
    ·simp only [hs];exact ⟨fun he=>absurd (List.map_eq_nil_iff.1 he) k1,k2⟩
    ·simp only [hs];exact ⟨fun he=>absurd (List.map_eq_nil_iff.1 he) k1,k2⟩
   ·cases h
    obtain ⟨k1,k2⟩:=key true rfl rfl
    rcases hs with hs | ⟨i,zz,hs⟩
    ·simp only [hs];exact ⟨fun he=>absurd (List.map_eq_nil_iff.1 he) k1,k2⟩
    ·simp only [hs];exact ⟨fun he=>absurd (List.map_eq_nil_iff.1 he) k1,k2⟩
   ·cases h
  ·cases h
def lenS (P:Program) (t:TypeId) (a:SV):Option SV :=
 match telem P t with
 | some _=>match a with
  | .nil=>some (.e (.int .i64) (.int .i64 0))
  | a=>(asS none a).map fun r=>.e (.int .i64) (.p1 .len r.2)
 | none=>match P.underlying t with
  | some .string=>match a with
   | .e .str x=>some (.e (.int .i64) (.p1 .len x))
   | _=>none
  | some (.array n _)=>if n≤9223372036854775807∧inR .i64 n=true then some (.e (.int .i64) (.int .i64 n)) else none
  | _=>none
theorem lenS_ok {c:Call} {x:Operand} {t:TypeId} {ts:List TypeId} {a z:SV} (hop:o.op = .call c) (hc:c.callee = .builtin .len) (hx:c.args.toList=[x]) (ht:c.argTypes.toList=t::ts) (h:lenS P t a=some z) (ha:InstV env a (s.get x)) (hb:Nx o s k z env):evOp P S p o s k:=by
 simp only [evOp,hop,hc,hx,ht,List.map_cons,List.map_nil]
 unfold lenS at h
 split at h
 ·rename_i e he
  split at h
  ·cases h
   simp only [InstV] at ha
   simp only [he,ha,sliceOf]
   exact hb _ (by simp only [InstV];exact ⟨0,rfl,rfl⟩)
  ·obtain ⟨⟨u,q⟩,h1,h2⟩:=Option.map_eq_some_iff.1 h
   cases h2
   obtain ⟨xs,e1,e2⟩:=asS_ok h1 ha
   simp only [he,e2]
   exact hb _ (by simp only [InstV];exact ⟨xs.length,by simp [E.val,app1,e1,prim1],by rw [List.length_map];rfl⟩)
 ·rename_i he
  split at h
  ·rename_i hu
   split at h
   ·cases h
    simp only [InstV] at ha
    obtain ⟨b,h1,h2⟩:=ha
    simp only [he,hu,h2,encD_str]
    exact hb _ (by simp only [InstV];exact ⟨b.size,by simp [E.val,app1,h1,prim1],rfl⟩)
   ·cases h
  ·rename_i n e' hu
   split at h
   ·rename_i hn
    cases h
    simp only [he,hu]
    exact ⟨hn.1,hb _ (by simp only [InstV];exact ⟨n,by simp [E.val,hn.2],rfl⟩)⟩
   ·cases h
  ·cases h
def mmS (gt:Bool) (a b:SV):Option SV :=
 match a,b with
 | .e (.int q) x,.e (.int r) z=>if q=r then some (.e (.int q) (.pick (.p2 (.bin (if gt then .gtr else .lss)) z x) z x)) else none
 | _,_=>none
theorem mmS_ok {c:Call} {gt:Bool} {x z:Operand} {a b w:SV} (hop:o.op = .call c) (hc:c.callee = .builtin (if gt then .max else .min)) (hx:c.args.toList=[x,z]) (h:mmS gt a b=some w) (ha:InstV env a (s.get x)) (hb' : InstV env b (s.get z)) (hb:Nx o s k w env):evOp P S p o s k:=by
 unfold mmS at h
 split at h
 ·rename_i q e r f
  split at h
  ·rename_i hqr
   subst hqr
   cases h
   simp only [InstV] at ha hb'
   obtain ⟨m,h1,h2⟩:=ha
   obtain ⟨n,h3,h4⟩:=hb'
   cases gt with
   | true =>
    simp only [if_true] at hc hb
    simp only [evOp,hop,hc,hx,List.map_cons,List.map_nil,h2,h4,encD_int]
    refine ⟨trivial,hb _ ?_⟩
    simp only [InstV]
    have hg:(E.p2 (.bin .gtr) f e).val env=some ⟨.bool,decide (n>m)⟩:=by simp [E.val,app2,h1,h3,prim2,binF]
    exact ⟨_,pick_val hg h3 h1,by simp only [decide_eq_true_eq];split <;> rfl⟩
   | false =>
    simp only [Bool.false_eq_true,if_false] at hc hb
    simp only [evOp,hop,hc,hx,List.map_cons,List.map_nil,h2,h4,encD_int]
    refine ⟨trivial,hb _ ?_⟩
    simp only [InstV]
    have hg:(E.p2 (.bin .lss) f e).val env=some ⟨.bool,decide (n<m)⟩:=by simp [E.val,app2,h1,h3,prim2,binF]
    exact ⟨_,pick_val hg h3 h1,by simp only [decide_eq_true_eq];split <;> rfl⟩
  ·cases h
 ·cases h
theorem extract_ok {x:Operand} {i:Nat} {vs:List SV} {z:SV} (hop:o.op = .extract x i) (h:vs[i]? = some z) (ha:InstV env (.tup vs) (s.get x)) (hb:Nx o s k z env):evOp P S p o s k:=by
 simp only [InstV] at ha
 obtain ⟨c,h1,h2⟩:=ha
 obtain ⟨v,h3,h4⟩:=h2.get h
 simp only [evOp,hop,h1,h3]
 exact hb _ h4
def getAll (g:Operand→Option SV):List Operand→Option (List SV)
 | []=>some []
 | o::os=>match g o,getAll g os with
  | some x,some xs=>some (x::xs)
  | _,_=>none
theorem getAll_ok {g:Operand→Option SV} (hg:∀ o x,g o=some x→InstV env x (s.get o)):∀ {os:List Operand} {xs:List SV},getAll g os=some xs→InstL env xs (os.map s.get)
 | [],xs,h=>by cases h;simp [InstL]
 | o::os,xs,h=>by
  simp only [getAll] at h
  split at h
  ·rename_i x xs' h1 h2
   cases h
   simp only [List.map_cons,InstL]
   exact ⟨_,_,rfl,hg _ _ h1,getAll_ok hg h2⟩
  ·cases h
theorem makeFunc_ok {f:FuncId} {cap:Array Operand} {xs:List SV} (hop:o.op = .makeFunc (.func f) #[] cap) (hlt:f<fnB) (h:InstL env xs (cap.toList.map s.get)) (hb:Nx o s k (.fn f xs) env):evOp P S p o s k:=by
 simp only [evOp,hop]
 exact ⟨hlt,by rw [if_pos trivial];exact hb _ (by simp only [InstV];exact ⟨_,rfl,h⟩)⟩
theorem makeFunc_ok2 {f:FuncId} {first:Array Operand} {xs:List SV} (hop:o.op = .makeFunc (.func f) first #[]) (hlt:f<fnB) (hf:first ≠ #[]) (h:InstL env xs (first.toList.map s.get)) (hb:Nx o s k (.fn (f+fnB) xs) env):evOp P S p o s k:=by
 simp only [evOp,hop]
 exact ⟨hlt,by rw [if_neg hf];exact ⟨trivial,hb _ (by simp only [InstV];exact ⟨_,rfl,h⟩)⟩⟩
def isZeroV (t:Ty) (v:V):Bool:=match v with
 | .d (.v c)=>decide (t.ag=some false)&&(eatZ t [.v c]).isSome&&(match eatZ t [.v c] with | some []=>true | _=>false)
 | _=>false
theorem isZeroV_ok {t:Ty} {v:V} (h:isZeroV t v=true):v = .d (encD t t.zero)∧t.ag=some false:=by
 unfold isZeroV at h
 split at h
 ·rename_i c
  simp only [Bool.and_eq_true,decide_eq_true_eq] at h
  obtain ⟨⟨h1,h2⟩,h3⟩:=h
  split at h3
  ·rename_i he
   have:=eatZ_ok _ _ _ he
   rw [List.append_nil,(encD_false h1 _).1] at this
   simp only [List.cons.injEq,and_true] at this
   exact ⟨by rw [this],h1⟩
  ·cases h3
 ·cases h
def lookS (k:IntKind) (kd:IntKind) (t:Ty) (m:E) (q:IntKind) (a:E) (ok:Bool):Option SV :=
 if k=kd∧q=kd then some (if ok then .tup [.e t (.p2 .mget m a),.e .bool (.p2 .mhas m a)] else .e t (.p2 .mget m a)) else none
theorem getKV_rel {t:Ty} (a:Int):∀ {l:List (Int×t.den)} {kvs:List (Int×Value)},l.map (fun y=>(y.1,scal t y.2))=kvs.map (fun y=>(y.1,some y.2)) →
  (∃ c,getKV a kvs=some c ∧ .v c=encD t (mgetV t.zero l a)∧mhasV l a=true)∨(getKV a kvs=none∧mgetV t.zero l a=t.zero∧mhasV l a=false)
 | [],[],_=>.inr ⟨rfl,rfl,rfl⟩
 | [],_::_,h=>by simp at h
 | _::_,[],h=>by simp at h
 | (b,x)::l,(b',c)::kvs,h=>by
  simp only [List.map_cons,List.cons.injEq,Prod.mk.injEq] at h
  obtain ⟨⟨h1,h2⟩,h3⟩:=h
  subst h1
  simp only [getKV,mgetV,mhasV]
  split
  ·exact .inl ⟨c,rfl,(scal_enc h2).symm,rfl⟩
  ·exact getKV_rel a h3
theorem lookS_ok {t et:TypeId} {x ix:Operand} {ok:Bool} {n:Name} {kd k' q:IntKind} {u:Ty} {m a:E} {z:SV} (hop:o.op = .lookup t x ix ok) (hk:tmapk P t=some kd) (he:tmape P t=some et) (hz:isZeroV u (tzero P et)=true)
  (hn:s.get x = .mref n) {c:V} (hl:lookN n s.bx=some c) (hc:InstV env (.mpc k' u m) c) (hi:InstV env (.e (.int q) a) (s.get ix)) (h:lookS k' kd u m q a ok=some z) (hb:Nx o s k z env):evOp P S p o s k:=by
 unfold lookS at h
 split at h
 ·rename_i hh
  obtain ⟨rfl,rfl⟩:=hh
  simp only [InstV] at hc hi
  obtain ⟨l,kvs,e1,rfl,e2⟩:=hc
  obtain ⟨i,e3,e4⟩:=hi
  obtain ⟨z1,z2⟩:=isZeroV_ok hz
  simp only [evOp,hop,hk,he,hn,hl,e4,encD_int]
  refine ⟨trivial,trivial,by rw [z1];rfl,?_⟩
  have v1:(E.p2 .mget m a).val env=some ⟨u,mgetV u.zero l i⟩:=by simp [E.val,app2,e1,e3,prim2]
  have v2:(E.p2 .mhas m a).val env=some ⟨.bool,mhasV l i⟩:=by simp [E.val,app2,e1,e3,prim2]
  have hv:((getKV i kvs).map (fun c=>V.d (.v c))).getD (tzero P et) = .d (encD u (mgetV u.zero l i))∧(getKV i kvs).isSome=mhasV l i:=by
   rcases getKV_rel i e2 with ⟨c,g1,g2,g3⟩ | ⟨g1,g2,g3⟩
   ·rw [g1,g3];exact ⟨by simp only [Option.map_some,Option.getD_some,g2],rfl⟩
   ·rw [g1,g2,g3];exact ⟨by simp only [Option.map_none,Option.getD_none,z1],rfl⟩
  rw [hv.1,hv.2]
  cases h
  cases ok with
  | true =>
   refine hb _ ?_
   simp only [if_true,InstV]
   refine ⟨_,rfl,?_⟩
   simp only [InstL,InstV]
   exact ⟨_,_,rfl,⟨_,v1,rfl⟩,_,_,rfl,⟨_,v2,rfl⟩,rfl⟩
  | false =>
   refine hb _ ?_
   simp only [Bool.false_eq_true,if_false,InstV]
   exact ⟨_,v1,rfl⟩
 ·cases h
end
end Go.Tx
namespace Go.Tx
open Go Go.Ab
section
variable {P:Program} {S:Sems} {CS:Calls'} {env:List Val} {y:Sy} {s:Sa} {p:Name} {o:Oper} {k:Sa→Prop}
theorem toDs_ds (ds:List D):toDs V.toD1 (ds.map V.d)=some ds:=by
 induction ds with
 | nil=>rfl
 | cons d ds ih=>simp [toDs,ih,V.toD1]
theorem toDs_len {f:V→Option D}:∀ {vs:List V} {ds:List D},toDs f vs=some ds→ds.length=vs.length
 | [],ds,h=>by cases h;rfl
 | v::vs,ds,h=>by
  simp only [toDs] at h
  split at h
  ·rename_i x xs h1 h2;cases h;simp [toDs_len h2]
  ·cases h
theorem toDs_take {f:V→Option D}:∀ {n:Nat} {vs:List V} {ds:List D},toDs f vs=some ds→toDs f (vs.take n)=some (ds.take n)
 | 0,vs,ds,h=>by simp [toDs]
 | n+1,[],ds,h=>by cases h;simp [toDs]
 | n+1,v::vs,ds,h=>by
  simp only [toDs] at h
  split at h
  ·rename_i x xs h1 h2;cases h;simp only [List.take_succ_cons];exact toDs_cons h1 (toDs_take h2)
  ·cases h
theorem toDs_drop {f:V→Option D}:∀ {n:Nat} {vs:List V} {ds:List D},toDs f vs=some ds→toDs f (vs.drop n)=some (ds.drop n)
 | 0,vs,ds,h=>h
 | n+1,[],ds,h=>by cases h;simp [toDs]
 | n+1,v::vs,ds,h=>by
  simp only [toDs] at h
  split at h
  ·rename_i x xs h1 h2;cases h;simp only [List.drop_succ_cons];exact toDs_drop h2
  ·cases h
theorem toDs_over {vs us:List V} {ds es:List D} {off:Nat} (h1:toDs V.toD1 vs=some ds) (h2:toDs V.toD1 us=some es):toDs V.toD1 (over vs us off)=some (over ds es off):=by
 simp only [over]
 rw [toDs_len h2]
 exact toDs_app (toDs_app (toDs_take h1) h2) (toDs_drop h1)
theorem asE_cells {w:Option Ty} {z:SV} {v:V} {t:Ty} {x:E} (h:asE w z=some (t,x)) (hv:InstV env z v):∃ a,x.val env=some ⟨t,a⟩∧toDs V.toD1 v.cells=some (enc t a)∧isCells v=true:=by
 have h':=h
 have hv':=hv
 cases z <;> simp only [asE,asE1,reduceCtorEq] at h
 case e u q =>
  cases h;simp only [InstV] at hv;obtain ⟨a,h1,rfl⟩:=hv
  exact ⟨a,h1,by rw [cells_d,encD_cells];exact toDs_ds _,rfl⟩
 case own i sz u q =>
  cases h;simp only [InstV] at hv;obtain ⟨a,h1,h2,rfl⟩:=hv
  exact ⟨a,h1,rfl,rfl⟩
 case nil =>
  simp only [InstV] at hv;subst hv
  split at h
  ·cases h;exact ⟨[],rfl,rfl,rfl⟩
  ·cases h
 case kd cs =>
  obtain ⟨a,h1,h2⟩:=asE_ok h' hv'
  simp only [InstV] at hv;subst hv
  simp only [V.toD,V.toD1,Option.some.injEq] at h2
  refine ⟨a,h1,?_,rfl⟩
  rw [cells_d,D.cells_agg,← encD_cells,← h2]
  exact toDs_ds _
 case mix t0 x0 os zs =>
  simp only [InstV] at hv
  obtain ⟨a,c,h1,rfl,h3,h4,h5⟩:=hv
  split at h
  ·rename_i u e hp
   split at h
   ·rename_i hag
    cases h
    obtain ⟨b,r1,r2,r3⟩:=patchE_ok hp h1 h4 h3 (mix_rest h5)
    exact ⟨b,r1,r3,rfl⟩
   ·cases h
  ·cases h
 case agg cs =>
  split at h
  ·split at h
   ·rename_i w' u x' h1
    split at h
    ·rename_i ha
     cases h
     simp only [InstV] at hv
     obtain ⟨c,rfl,h2⟩:=hv
     obtain ⟨a,us,vs',e1,e2,e3,e4⟩:=chain_ok _ _ _ _ _ _ h1 h2
     simp only [InstL] at e3
     subst e3
     rw [List.append_nil] at e2
     subst e2
     exact ⟨a,e1,e4,rfl⟩
    ·cases h
   ·cases h
  ·cases h
def fillE (place:Nat→Option (Nat×Nat×Option Ty)) (t:Ty) (x:E):List (Nat×SV)→Option (Ty×E)
 | []=>some (t,x)
 | (i,v)::rest=>match place i with
  | some (off,sz,w)=>match asE w v with
   | some (u,e)=>if u.size=sz then (match ty2 (.upd off) t u with
    | some t'=>fillE place t' (.p2 (.upd off) x e) rest
    | none=>none) else none
   | none=>none
  | none=>none
theorem fillE_ok {place:Nat→Option (Nat×Nat)} {pl:Nat→Option (Nat×Nat×Option Ty)} (hp:∀ i r,pl i=some r→place i=some (r.1,r.2.1)):∀ {ps:List (Nat×SV)} {qs:List (Nat×V)} {t t' : Ty} {x x' : E} {a:t.den} {vs:List V},
  fillE pl t x ps=some (t',x')→InstK env ps qs→x.val env=some ⟨t,a⟩→toDs V.toD1 vs=some (enc t a)→t.ag=some true→∃ a' vs',fillV place vs qs=some vs' ∧ x'.val env=some ⟨t',a'⟩∧toDs V.toD1 vs' = some (enc t' a')∧t'.ag=some true
 | [],qs,t,t',x,x',a,vs,h,hk,hx,hv,ha=>by
  cases h
  simp only [InstK] at hk
  subst hk
  exact ⟨a,vs,rfl,hx,hv,ha⟩
 | (i,z)::ps,qs,t,t',x,x',a,vs,h,hk,hx,hv,ha=>by
  simp only [InstK] at hk
  obtain ⟨v,qs',rfl,h2,h3⟩:=hk
  simp only [fillE] at h
  split at h
  ·rename_i off sz w hpl
   split at h
   ·rename_i u e he
    split at h
    ·rename_i hs
     split at h
     ·rename_i t1 ht1
      obtain ⟨b,e1,e2,e3⟩:=asE_cells he h2
      obtain ⟨f,k1,k2⟩:=val2 ht1 hx e1
      obtain ⟨g1,g2,g3,g4⟩:=updF_enc _ _ _ _ _ (show updF t u off=some ⟨t1,f⟩ from k1)
      have hlen:v.cells.length=sz:=by rw [← toDs_len e2,enc_len];exact hs
      have hvl:vs.length=t.size:=by rw [← toDs_len hv,enc_len]
      have hov:=toDs_over (off:=off) hv e2
      rw [← g4] at hov
      obtain ⟨a',vs',r1,r2⟩:=fillE_ok hp h h3 k2 hov (by rw [g3,ha])
      refine ⟨a',vs',?_,r2⟩
      simp only [fillV,hp _ _ hpl]
      rw [if_pos ⟨e3,hlen,by omega⟩]
      simp only [over,hlen] at r1
      exact r1
     ·cases h
    ·cases h
   ·cases h
  ·cases h
def tplaceT (P:Program) (t:TypeId) (i:Nat):Option (Nat×Nat×Option Ty) :=
 match P.underlying t with
 | some (.struct fs)=>(fs[i]?).map fun f=>(f.offset,tsz P f.type,tyD P f.type)
 | some (.array _ e)=>some (i * tsz P e,tsz P e,tyD P e)
 | _=>none
theorem tplaceT_ok {t:TypeId}:∀ i r,tplaceT P t i=some r→tplace P t i=some (r.1,r.2.1):=by
 intro i r h
 unfold tplaceT at h
 unfold tplace
 split at h
 ·rename_i fs hf
  obtain ⟨f,h1,rfl⟩:=Option.map_eq_some_iff.1 h
  simp only [hf,h1,Option.map_some]
 ·rename_i n e hf
  cases h
  simp only [hf]
 ·cases h
def eatsAll (w:Ty) (ds:List D):Bool:=match eatZ w ds with | some []=>true | _=>false
theorem eatsAll_ok {w:Ty} {ds:List D} (h:eatsAll w ds=true):ds=enc w w.zero:=by
 unfold eatsAll at h
 split at h
 ·rename_i he;have:=eatZ_ok _ _ _ he;rwa [List.append_nil] at this
 ·cases h
def zeroOf (P:Program) (t:TypeId):Option Ty :=
 match tyD P t with
 | some w=>match tzero P t with
  | .d (.agg ds)=>if w.ag=some true∧eatsAll w ds=true then some w else none
  | v=>if isZeroV w v=true then some w else none
 | none=>none
theorem zeroOf_ok {t:TypeId} {w:Ty} (h:zeroOf P t=some w):tzero P t = .d (encD w w.zero)∧w.ag≠none:=by
 unfold zeroOf at h
 split at h
 ·rename_i w' hw
  split at h
  ·rename_i ds hd
   split at h
   ·rename_i hc
    cases h
    obtain ⟨h1,h2⟩:=hc
    rw [hd,encD_ag h1,eatsAll_ok h2];exact ⟨rfl,by simp [h1]⟩
   ·cases h
  ·split at h
   ·rename_i hc
    cases h
    obtain ⟨h1,h2⟩:=isZeroV_ok hc
    exact ⟨h1,by simp [h2]⟩
   ·cases h
 ·cases h
def buildS (P:Program) (t:TypeId) (ps:List (Nat×SV)):Option SV :=
 match zeroOf P t with
 | some w=>if w.ag=some true then (fillE (tplaceT P t) w (.zero w) ps).map fun r=>.e r.1 r.2 else none
 | none=>none
theorem buildS_ok {t:TypeId} {parts:Array (Nat×Operand)} {ps:List (Nat×SV)} {z:SV} (hop:o.op = .build t parts) (ht:tbuild P t=true) (h:buildS P t ps=some z) (hk:InstK env ps (parts.toList.map fun x=>(x.1,s.get x.2))) (hb:Nx o s k z env):evOp P S p o s k:=by
 unfold buildS at h
 split at h
 ·rename_i w hw
  split at h
  ·rename_i ha
   obtain ⟨⟨t',x'⟩,h1,h2⟩:=Option.map_eq_some_iff.1 h
   cases h2
   obtain ⟨hz,_⟩:=zeroOf_ok hw
   obtain ⟨a',vs',r1,r2,r3,r4⟩:=fillE_ok (fun i r h=>tplaceT_ok i r h) h1 hk (a:=w.zero) rfl (vs:=zcells P t) (by unfold zcells;rw [hz,cells_d,encD_cells];exact nilCs_toDs _ _) ha
   simp only [evOp,hop]
   refine ⟨ht,by rw [hz];rfl,?_⟩
   rw [r1]
   refine hb _ ?_
   simp only [mkAgg,r3,InstV]
   exact ⟨a',r2,by rw [encD_ag r4]⟩
  ·cases h
 ·cases h
def isPatch:SV→Bool
 | .nil=>true
 | z=>firm z
theorem isPatch_single {z:SV} (h:isPatch z=true):single z=true:=by
 cases z <;> first | rfl | exact firm_single h
def fillM (place:Nat→Option (Nat×Nat×Option Ty)) (t:Ty) (x:E) (os:List Nat) (zs:List SV):List (Nat×SV)→Option (Ty×E×List Nat×List SV)
 | []=>some (t,x,os,zs)
 | (i,v)::rest=>match place i with
  | some (off,sz,w)=>if isPatch v=true then (if sz=1∧off+1≤t.size then fillM place t x (off::(keepP off 1 os zs).1) (v::(keepP off 1 os zs).2) rest else none)
   else match asD' w v with
    | some (u,e)=>if u.size=sz then (match ty2 (.upd off) t u with
     | some t'=>fillM place t' (.p2 (.upd off) x e) (keepP off sz os zs).1 (keepP off sz os zs).2 rest
     | none=>none) else none
    | none=>none
  | none=>none
theorem fillM_ok {place:Nat→Option (Nat×Nat)} {pl:Nat→Option (Nat×Nat×Option Ty)} (hp:∀ i r,pl i=some r→place i=some (r.1,r.2.1)):∀ {ps:List (Nat×SV)} {qs:List (Nat×V)} {t:Ty} {x:E} {os:List Nat} {zs:List SV} {r:Ty×E×List Nat×List SV} {a:t.den} {c:List V},
  fillM pl t x os zs ps=some r→InstK env ps qs→x.val env=some ⟨t,a⟩→c.length=t.size→InstP env os zs c→(∀ i,i<t.size→i ∉ os→c[i]? = ((enc t a)[i]?).map V.d)→t.ag=some true →
  ∃ c',fillV place c qs=some c' ∧ InstV env (.mix r.1 r.2.1 r.2.2.1 r.2.2.2) (.agg c')∧r.1.ag=some true
 | [],qs,t,x,os,zs,r,a,c,h,hk,hx,hl,hP,hr,ha=>by
  cases h
  simp only [InstK] at hk
  subst hk
  exact ⟨c,rfl,by simp only [InstV];exact ⟨a,c,hx,rfl,hl,hP,hr⟩,ha⟩
 | (i,z)::ps,qs,t,x,os,zs,r,a,c,h,hk,hx,hl,hP,hr,ha=>by
  simp only [InstK] at hk
  obtain ⟨v,qs',rfl,h2,h3⟩:=hk
  simp only [fillM] at h
  split at h
  ·rename_i off sz w hpl
   split at h
   ·rename_i hpat
    split at h
    ·rename_i hc
     obtain ⟨e1,e2⟩:=single_cells (isPatch_single hpat) h2
     have hlen:off+[v].length≤c.length:=by rw [hl];exact hc.2
     obtain ⟨q1,q2⟩:=keepP_ok (xs:=[v]) hP hlen
     simp only [List.length_cons,List.length_nil,Nat.zero_add] at q1 q2 hlen
     obtain ⟨c',r1,r2⟩:=fillM_ok hp (c:=over c [v] off) h h3 hx (by rw [over_len hlen];exact hl) ⟨off,_,rfl,⟨v,by rw [over_get hlen,if_pos rfl],h2⟩,q1⟩ (fun i hi hn=>by
      simp only [List.mem_cons,not_or] at hn
      rw [over_get hlen,if_neg hn.1]
      exact hr i hi fun hm=>by have:=q2 i hn.2 hm;omega) ha
     refine ⟨c',?_,r2⟩
     simp only [fillV,hp _ _ hpl]
     rw [if_pos ⟨single_isCells (isPatch_single hpat) h2,by rw [e1];exact hc.1.symm,by rw [hc.1];exact hlen⟩]
     rw [e1,hc.1]
     exact r1
    ·cases h
   ·split at h
    ·rename_i u e he
     split at h
     ·rename_i hs
      split at h
      ·rename_i t1 ht1
       obtain ⟨b,e1,e2⟩:=asD'_ok he h2
       obtain ⟨f,k1,k2⟩:=val2 ht1 hx e1
       obtain ⟨g1,g2,g3,g4⟩:=updF_enc _ _ _ _ _ (show updF t u off=some ⟨t1,f⟩ from k1)
       have hcv:v.cells=(enc u b).map V.d:=by rw [e2,cells_d,encD_cells]
       have hxl:((enc u b).map V.d).length=sz:=by rw [List.length_map,enc_len];exact hs
       have hlen:off+((enc u b).map V.d).length≤c.length:=by rw [hxl,hl];omega
       obtain ⟨q1,q2⟩:=keepP_ok (xs:=(enc u b).map V.d) hP hlen
       rw [hxl] at q1 q2
       obtain ⟨c',r1,r2⟩:=fillM_ok hp (c:=over c ((enc u b).map V.d) off) h h3 k2 (by rw [over_len hlen,hl,g2]) q1 (fun i hi hn=>by
        rw [g4]
        by_cases hin:off≤i∧i<off+sz
        ·rw [over_in hin.1 (by rw [hxl];exact hin.2) hlen,over_in hin.1 (by rw [enc_len,hs];exact hin.2) (by rw [enc_len,enc_len];exact g1),List.getElem?_map]
        ·rw [over_out (by rw [hxl];omega) hlen,over_out (by rw [enc_len,hs];omega) (by rw [enc_len,enc_len];exact g1)]
         exact hr i (by omega) fun hm=>hin (q2 i hn hm)) (by rw [g3,ha])
       refine ⟨c',?_,r2⟩
       simp only [fillV,hp _ _ hpl]
       rw [if_pos ⟨by rw [e2];rfl,by rw [hcv];exact hxl,by rw [hxl] at hlen;exact hlen⟩]
       rw [hcv]
       simp only [over,hxl] at r1
       exact r1
      ·cases h
     ·cases h
    ·cases h
  ·cases h
def nilIdx:Nat→List V→List Nat
 | _,[]=>[]
 | k,.nil::l=>k::nilIdx (k+1) l
 | k,_::l=>nilIdx (k+1) l
theorem nilIdx_P:∀ (l pre:List V) ,InstP env (nilIdx pre.length l) (List.replicate (nilIdx pre.length l).length .nil) (pre++l)
 | [],pre=>rfl
 | x::l,pre=>by
  have ih:=nilIdx_P l (pre++[x])
  rw [List.length_append,List.append_assoc] at ih
  simp only [List.length_cons,List.length_nil,Nat.zero_add,List.singleton_append] at ih
  cases x with
  | nil=>exact ⟨pre.length,_,rfl,⟨.nil,by simp,rfl⟩,ih⟩
  | _=>exact ih
theorem nilIdx_mem:∀ (l:List V) (k i:Nat),l[i]? = some .nil→k+i∈nilIdx k l
 | [],k,i,h=>by simp at h
 | x::l,k,0,h=>by
  simp only [List.getElem?_cons_zero,Option.some.injEq] at h
  subst h;exact List.mem_cons_self
 | x::l,k,i+1,h=>by
  have ih:=nilIdx_mem l (k+1) i (by simpa using h)
  rw [show k+1+i=k+(i+1) from by omega] at ih
  cases x with
  | nil=>exact List.mem_cons_of_mem _ ih
  | _=>exact ih
def buildG (P:Program) (t:TypeId) (ps:List (Nat×SV)):Option SV :=
 match zeroOf P t with
 | some w=>if w.ag=some true then (match fillM (tplaceT P t) w (.zero w) (nilIdx 0 (zcells P t)) (List.replicate (nilIdx 0 (zcells P t)).length .nil) ps with
  | some (t',x',os,zs)=>if zs.any solid=true then some (.mix t' x' os zs) else none
  | none=>none) else none
 | none=>none
theorem buildG_ok {t:TypeId} {parts:Array (Nat×Operand)} {ps:List (Nat×SV)} {z:SV} (hop:o.op = .build t parts) (ht:tbuild P t=true) (h:buildG P t ps=some z) (hk:InstK env ps (parts.toList.map fun x=>(x.1,s.get x.2))) (hb:Nx o s k z env):evOp P S p o s k:=by
 unfold buildG at h
 split at h
 ·rename_i w hw
  split at h
  ·rename_i ha
   split at h
   ·rename_i t' x' os zs hf
    split at h
    ·rename_i hsol
     cases h
     obtain ⟨hz,_⟩:=zeroOf_ok hw
     obtain ⟨c',r1,r2,r3⟩:=fillM_ok (fun i r h=>tplaceT_ok i r h) hf hk (a:=w.zero) rfl (c:=zcells P t) (by unfold zcells;rw [nilCs_len,hz,cells_d,encD_cells,List.length_map,enc_len]) (nilIdx_P (zcells P t) []) (fun i _ hni=>by
      unfold zcells at hni ⊢
      rcases nilCs_get (zvals P t) (tzero P t).cells i with e | ⟨e,_,_⟩
      ·rw [e,hz,cells_d,encD_cells,List.getElem?_map]
      ·exact absurd (by have:=nilIdx_mem _ 0 i e;rwa [Nat.zero_add] at this) hni) ha
     simp only [evOp,hop]
     refine ⟨ht,by rw [hz];rfl,?_⟩
     rw [r1]
     have r2':=r2
     simp only [InstV] at r2
     obtain ⟨a,c,g1,g2,g3,g4,g5⟩:=r2
     cases g2
     have:=InstP.solid_none (f:=V.toD1) (fun x v h1 h2=>(solid_none h1 h2).1) g4 hsol
     refine hb _ ?_
     simp only [mkAgg,this]
     exact r2'
    ·cases h
   ·cases h
  ·cases h
 ·cases h
def allE (t:Ty):List SV→Option (List E)
 | []=>some []
 | z::zs=>match asE (some t) z,allE t zs with
  | some (u,e),some es=>if u=t then some (e::es) else none
  | _,_=>none
theorem allE_ok {t:Ty}:∀ {zs:List SV} {vs:List V} {es:List E},allE t zs=some es→InstL env zs vs→∃ l:List t.den,evs env es=some (l.map fun x=>(⟨t,x⟩:Val))∧toDs V.toD vs=some (l.map (encD t))
 | [],vs,es,h,hl=>by
  cases h
  simp only [InstL] at hl
  subst hl
  exact ⟨[],rfl,rfl⟩
 | z::zs,vs,es,h,hl=>by
  simp only [InstL] at hl
  obtain ⟨v,vs',rfl,h2,h3⟩:=hl
  simp only [allE] at h
  split at h
  ·rename_i u e es' h4 h5
   split at h
   ·rename_i hu
    subst hu
    cases h
    obtain ⟨a,e1,e2⟩:=asE_ok h4 h2
    obtain ⟨l,e3,e4⟩:=allE_ok h5 h3
    exact ⟨a::l,by simp [evs,e1,e3],toDs_cons e2 e4⟩
   ·cases h
  ·cases h
theorem castL_map {t:Ty} (l:List t.den):castL t (l.map fun x=>(⟨t,x⟩:Val))=some l:=by
 induction l with
 | nil=>rfl
 | cons x l ih=>simp [castL,ih]
def listS (P:Program) (nv:Nat) (t:TypeId) (len:Nat) (ids:List Nat) (zs:List SV):Option (List (B×Ty)×SV) :=
 match telem P t with
 | some e=>match tyD P e with
  | some w=>if w.size=tsz P e∧tsz P e≠0∧isCells (tzero P e)=true∧len * tsz P e≤16777216∧ids=List.range len∧len≠0 then (allE w zs).map fun es=>([(.list w es,.sl w)],.e (.sl w) (.var nv)) else none
  | none=>none
 | none=>none
theorem listS_ok {t:TypeId} {len:Nat} {parts:Array (Nat×Operand)} {zs:List SV} {z:SV} {bs:List (B×Ty)} (hop:o.op = .buildSlice t len parts) (h:listS P y.g.length t len (parts.toList.map (·.1)) zs=some (bs,z)) (hI:Inst env y s)
  (hl:InstL env zs (parts.toList.map fun x=>s.get x.2)) (hb:okBs CS bs env (Nx o s k z)):evOp P S p o s k:=by
 unfold listS at h
 split at h
 ·rename_i e he
  split at h
  ·rename_i w hw
   split at h
   ·rename_i hc
    obtain ⟨es,h1,h2⟩:=Option.map_eq_some_iff.1 h
    cases h2
    obtain ⟨l,e1,e2⟩:=allE_ok h1 hl
    obtain ⟨c,r1,r2,r3⟩:=ok_last hI.len hb
    obtain ⟨vs,l',x1,x2,x3,x4⟩:=r1
    rw [e1] at x1;cases x1
    rw [castL_map] at x2;cases x2
    cases x4
    simp only [evOp,hop,he,e2]
    refine ⟨hc.2.1,hc.2.2.1,hc.2.2.2.1,hc.2.2.2.2.1,fun d hd=>?_,?_⟩
    ·obtain ⟨q,_,rfl⟩:=List.mem_map.1 hd
     rw [encD_cells,enc_len];exact hc.1
    ·rw [if_neg hc.2.2.2.2.2]
     exact r2 _ (by simp only [InstV];exact ⟨_,r3,rfl⟩)
   ·cases h
  ·cases h
 ·cases h
def resD:(t:Ty)→t.den→List D
 | .unit,_=>[]
 | .prod a b,x=>encD a x.1::resD b x.2
 | t,x=>[encD t x]
def notUnit:Ty→Bool
 | .unit=>false
 | _=>true
def resOK:Ty→Bool
 | .unit=>true
 | .prod a b=>decide (a.ag≠none)&&notUnit b&&resOK b
 | t=>decide (t.ag≠none)
def resL:Ty→E→List SV
 | .unit,_=>[]
 | .prod a b,x=>.e a (.p1 .fst x)::resL b (.p1 .snd x)
 | t,x=>[.e t x]
def resS (t:Ty) (x:E):SV:=match t with
 | .unit=>.tup []
 | .prod a b=>.tup (resL (.prod a b) x)
 | t=>.e t x
theorem resL_ok:∀ (t:Ty) (x:E) (a:t.den),x.val env=some ⟨t,a⟩→InstL env (resL t x) ((resD t a).map V.d):=by
 intro t
 induction t with
 | prod a b iha ihb =>
  intro x c hx
  simp only [resL,resD,List.map_cons,InstL]
  refine ⟨_,_,rfl,?_,ihb _ _ (by simp [E.val,app1,hx,prim1])⟩
  simp only [InstV]
  exact ⟨_,by simp only [E.val,app1,hx,prim1,Option.map_some],rfl⟩
 | unit=>intro x c hx;simp [resL,resD,InstL]
 | int q=>intro x c hx;exact ⟨_,_,rfl,⟨c,hx,rfl⟩,rfl⟩
 | bool=>intro x c hx;exact ⟨_,_,rfl,⟨c,hx,rfl⟩,rfl⟩
 | str=>intro x c hx;exact ⟨_,_,rfl,⟨c,hx,rfl⟩,rfl⟩
 | cst q=>intro x c hx;exact ⟨_,_,rfl,⟨c,hx,rfl⟩,rfl⟩
 | st q _=>intro x c hx;exact ⟨_,_,rfl,⟨c,hx,rfl⟩,rfl⟩
 | arr n q _=>intro x c hx;exact ⟨_,_,rfl,⟨c,hx,rfl⟩,rfl⟩
 | sl q _=>intro x c hx;exact ⟨_,_,rfl,⟨c,hx,rfl⟩,rfl⟩
 | mp q u _=>intro x c hx;exact ⟨_,_,rfl,⟨c,hx,rfl⟩,rfl⟩
theorem resD_pos {b:Ty} {x:b.den} (h:notUnit b=true):resD b x≠[]:=by
 cases b with
 | unit=>cases h
 | prod c d=>exact List.cons_ne_nil _ _
 | int q=>exact List.cons_ne_nil _ _
 | bool=>exact List.cons_ne_nil _ _
 | str=>exact List.cons_ne_nil _ _
 | cst q=>exact List.cons_ne_nil _ _
 | st q=>exact List.cons_ne_nil _ _
 | arr n q=>exact List.cons_ne_nil _ _
 | sl q=>exact List.cons_ne_nil _ _
 | mp q u=>exact List.cons_ne_nil _ _
theorem resS_ok {t:Ty} {x:E} {a:t.den} (ht:resOK t=true) (hx:x.val env=some ⟨t,a⟩):InstV env (resS t x) (mkRes ((resD t a).map V.d)):=by
 have hl:=resL_ok t x a hx
 cases t with
 | prod b c =>
  have ht' : (decide (b.ag≠none)&&notUnit c&&resOK c)=true:=ht
  rw [Bool.and_eq_true,Bool.and_eq_true] at ht'
  have hp:=resD_pos (x:=a.2) ht'.1.2
  have e:mkRes ((resD (.prod b c) a).map V.d) = .tup ((resD (.prod b c) a).map V.d):=by
   unfold mkRes
   split
   ·rename_i v hv
    exfalso
    have hv' : V.d (encD b a.1)::(resD c a.2).map V.d=[v]:=hv
    rw [List.cons.injEq,List.map_eq_nil_iff] at hv'
    exact hp hv'.2
   ·rfl
  rw [e]
  exact ⟨_,rfl,hl⟩
 | unit=>exact ⟨[],rfl,rfl⟩
 | int q=>exact ⟨a,hx,rfl⟩
 | bool=>exact ⟨a,hx,rfl⟩
 | str=>exact ⟨a,hx,rfl⟩
 | cst q=>exact ⟨a,hx,rfl⟩
 | st q=>exact ⟨a,hx,rfl⟩
 | arr n q=>exact ⟨a,hx,rfl⟩
 | sl q=>exact ⟨a,hx,rfl⟩
 | mp q u=>exact ⟨a,hx,rfl⟩
def TurnV (P:Program) (f:FuncId) (vs:List Val) (v:Val):Prop:=∃ (w:Ty) (xs:List w.den) (us:List Val) (rty:Ty) (ys:List w.den) (r:rty.den),vs=⟨.sl w,xs⟩::us∧v=⟨.prod (.sl w) rty,(ys,r)⟩∧TurnOK P f w.size (xs.map (encD w)) (us.map Val.d) (ys.map (encD w)) (resD rty r)
def CallV (P:Program):Calls':=fun g vs v=>(if Nat.blt g 1000000=true then PureOK P g (vs.map Val.d) (resD v.1 v.2) else TurnV P (g - 1000000) vs v)∧v.wf
theorem far_num (g:Nat) : ¬ Nat.blt (g+1000000) 1000000=true:=by rw [Nat.blt_eq];omega
theorem far_sub (g:Nat):g+1000000 - 1000000=g:=Nat.add_sub_cancel g 1000000
theorem callV_far {g n:Nat} {vs:List Val} {v:Val} (hn:n=g+1000000) (h:CallV P n vs v):TurnV P g vs v:=by
 obtain ⟨h,_⟩:=h
 have h1 : ¬ Nat.blt n 1000000=true:=by rw [hn];exact far_num g
 rw [if_neg h1] at h
 have h2:n - 1000000=g:=by rw [hn];exact far_sub g
 rw [h2] at h;exact h
theorem callV_mk {g n:Nat} {vs:List Val} {v:Val} (hn:n=g+1000000) (h:TurnV P g vs v) (hw:v.wf):CallV P n vs v:=by
 have h1 : ¬ Nat.blt n 1000000=true:=by rw [hn];exact far_num g
 have h2:n - 1000000=g:=by rw [hn];exact far_sub g
 refine ⟨?_,hw⟩
 rw [if_neg h1,h2];exact h
theorem callV_wf:CallsWf (CallV P):=fun _ _ _ h=>h.2
def argsE:List Ty→List SV→Option (List E)
 | [],[]=>some []
 | t::ts,z::zs=>match asE (some t) z,argsE ts zs with
  | some (u,e),some es=>if u=t then some (e::es) else none
  | _,_=>none
 | _,_=>none
theorem argsE_ok:∀ {ts:List Ty} {zs:List SV} {vs:List V} {es:List E},argsE ts zs=some es→InstL env zs vs→∃ us:List Val,evs env es=some us∧us.map (·.1)=ts∧toDs V.toD vs=some (us.map Val.d)
 | [],[],vs,es,h,hl=>by
  cases h
  simp only [InstL] at hl
  subst hl
  exact ⟨[],rfl,rfl,rfl⟩
 | t::ts,z::zs,vs,es,h,hl=>by
  simp only [InstL] at hl
  obtain ⟨v,vs',rfl,h2,h3⟩:=hl
  simp only [argsE] at h
  split at h
  ·rename_i u e es' h4 h5
   split at h
   ·rename_i hu
    subst hu
    cases h
    obtain ⟨a,e1,e2⟩:=asE_ok h4 h2
    obtain ⟨us,e3,e4,e5⟩:=argsE_ok h5 h3
    exact ⟨⟨u,a⟩::us,by simp [evs,e1,e3],by simp [e4],toDs_cons e2 e5⟩
   ·cases h
  ·cases h
 | [],_::_,vs,es,h,hl=>by simp [argsE] at h
 | _::_,[],vs,es,h,hl=>by simp [argsE] at h
abbrev Tab:=Nat→Option (List Ty×Ty)
def callS (tb:Tab) (nv:Nat) (g:Nat) (zs:List SV):Option (List (B×Ty)×SV) :=
 match tb g with
 | some (ts,r)=>match argsE ts zs with
  | some es=>if resOK r=true∧Nat.blt g 1000000=true then some ([(.call g es,r)],resS r (.var nv)) else none
  | none=>none
 | none=>none
def PureS (P:Program) (S:Sems):Prop:=∀ p g args s k ds rs,toDs V.toD args=some ds→PureOK P g ds rs→k (mkRes (rs.map .d)) s→S.call p g args s k
theorem pureS_sems {kt:TypeId→V→Sa→Prop}:PureS P (semsT P kt):=fun p g args s k ds rs h1 h2 h3=>(TCall_pure (p:=p) h2 h1 h3).toT
theorem pureS_semsP:PureS P (semsP P):=fun p g args s k ds rs h1 h2 h3=>PCall_pure h2 h1 h3
theorem callS_ok {c:Call} {f:Operand} {g:Nat} {tb:Tab} {zs:List SV} {z:SV} {bs:List (B×Ty)} (hS:PureS P S) (hop:o.op = .call c) (hc:c.callee = .value f) (hf:s.get f = .d (.v (.func (.func g) #[] #[]))) (hcal:callable P g=true) (h:callS tb y.g.length g zs=some (bs,z))
  (hI:Inst env y s) (hl:InstL env zs (c.args.toList.map s.get)) (hd:∀ d,o.dst=some d→d<s.n) (hb:okBs (CallV P) bs env (Nx o s k z)):evOp P S p o s k:=by
 unfold callS at h
 split at h
 ·rename_i ts r hr
  split at h
  ·rename_i es hes
   split at h
   ·rename_i hro
    cases h
    obtain ⟨us,e1,e2,e3⟩:=argsE_ok hes hl
    obtain ⟨a,r1,r2,r3⟩:=ok_last hI.len hb
    obtain ⟨vs,x1,x2⟩:=r1
    rw [e1] at x1;cases x1
    simp only [evOp,hop,hc,hf]
    have x2:=x2.1
    rw [if_pos hro.2] at x2
    exact ⟨hcal,hS _ _ _ _ _ _ _ e3 x2 ⟨hd,r2 _ (resS_ok hro.1 r3)⟩⟩
   ·cases h
  ·cases h
 ·cases h
end
end Go.Tx
