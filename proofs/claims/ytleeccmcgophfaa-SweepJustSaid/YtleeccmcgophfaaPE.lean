import Derived.Test.YtleeccmcgophfaaPD
set_option linter.all false
namespace Go.Tx
open Go Go.Ab
def Ty.like:Ty→Ty→Bool
 | .cst _,.cst _=>true
 | .prod a b,.prod c d=>a.like c&&b.like d
 | .st a,.st b=>a.like b
 | .arr n a,.arr m b=>Nat.beq n m&&a.like b
 | a,b=>decide (a=b)
theorem Ty.xH:∀ {a b:Ty},a.like b=true→a.size=b.size∧a.ag=b.ag:=by
 intro a
 induction a <;> intro b h <;> cases b <;> simp [Ty.like,Ty.size,Ty.ag] at h ⊢
 case prod.prod a b ih1 ih2 c d=>rw [(ih1 h.1).1,(ih2 h.2).1]
 case st.st a ih b=>exact (ih h).1
 case arr.arr n a ih m b=>rw [(ih h.2).1,h.1]
def hit (t:Ty):Option Ty→Bool
 | none=>decide (t.ag=some false)
 | some u=>decide (t.ag=some true)&&u.like t
def nO:(t:Ty)→Nat→Option Ty→Option ((u:Ty)×(t.den→u.den))
 | .prod a b,off,w=>if off<a.size then (nO a off w).map fun r=>⟨r.1,fun x=>r.2 x.1⟩ else (nO b (off - a.size) w).map fun r=>⟨r.1,fun x=>r.2 x.2⟩
 | .st a,off,w=>if off=0∧hit (.st a) w=true then some ⟨.st a,fun x=>x⟩ else (nO a off w).map fun r=>⟨r.1,fun x=>r.2 x⟩
 | .arr n u,off,w=>if off=0∧hit (.arr n u) w=true then some ⟨.arr n u,fun x=>x⟩ else
   if h:u.size≠0∧off / u.size<n then (nO u (off % u.size) w).map fun r=>⟨r.1,fun g=>r.2 (g ⟨off / u.size,h.2⟩)⟩ else none
 | t,off,w=>if off=0∧hit t w=true then some ⟨t,fun x=>x⟩ else none
theorem nG {α:Type} {a b:List α} {o n:Nat} (h:o+n≤a.length):((a++b).drop o).take n=(a.drop o).take n:=by
 rw [List.drop_append_of_le_length (by omega),List.take_append_of_le_length (by simp;omega)]
theorem sH {α:Type} {a b:List α} {o n:Nat} (h:a.length≤o):((a++b).drop o).take n=(b.drop (o - a.length)).take n:=by
 rw [List.drop_append]
 rw [List.drop_eq_nil_of_le h];simp
theorem EW {n:Nat} {t:Ty} (f:Fin n→t.den):∀ (l:List (Fin n)) (k:Nat) (hk:k<l.length),(l.flatMap fun i=>enc t (f i)).drop (k * t.size)=enc t (f l[k])++(l.drop (k+1)).flatMap fun i=>enc t (f i):=by
 intro l
 induction l with
 | nil=>intro k hk;simp at hk
 | cons x l ih =>
  intro k hk
  cases k with
  | zero=>simp
  | succ k =>
   simp only [List.flatMap_cons,List.getElem_cons_succ,List.drop_succ_cons]
   rw [← ih k (by simpa using hk),List.drop_append,Nat.succ_mul]
   rw [List.drop_eq_nil_of_le (by rw [ak];omega),List.nil_append,ak]
   congr 1;omega
theorem sJ {n:Nat} {t:Ty} (f:Fin n→t.den) {o m k:Nat} (hk:k<n) (ho:o+m≤t.size):((enc (.arr n t) f).drop (k * t.size+o)).take m=((enc t (f ⟨k,hk⟩)).drop o).take m:=by
 have h:=EW f (List.finRange n) k (by simpa using hk)
 simp only [List.getElem_finRange,Fin.cast_mk] at h
 rw [enc,← List.drop_drop,h,nG (by rw [ak];exact ho)]
theorem mul_div_le {o s n:Nat} (h:o / s<n):o - o % s+s≤n * s:=by
 have h1:o / s+1≤n:=h
 have h2:=Nat.mul_le_mul_right s h1
 have h3:=Nat.div_add_mod o s
 rw [Nat.add_mul,Nat.one_mul,Nat.mul_comm] at h2
 omega
theorem xI:∀ (t:Ty) (off:Nat) (w:Option Ty) (u:Ty) (f:t.den→u.den),nO t off w=some ⟨u,f⟩ →
  off+u.size≤t.size∧hit u w=true∧∀ x,enc u (f x)=((enc t x).drop off).take u.size:=by
 have base:∀ (t:Ty) (off:Nat) (w:Option Ty) (u:Ty) (f:t.den→u.den),(if off=0∧hit t w=true then some (⟨t,fun x=>x⟩:(u:Ty)×(t.den→u.den)) else none)=some ⟨u,f⟩ →
   off+u.size≤t.size∧hit u w=true∧∀ x,enc u (f x)=((enc t x).drop off).take u.size:=by
  intro t off w u f h
  split at h
  ·rename_i hc
   cases h
   exact ⟨by omega,hc.2,fun x=>by rw [hc.1,List.drop_zero,List.take_of_length_le (by rw [ak];exact Nat.le_refl _)]⟩
  ·cases h
 intro t
 induction t with
 | prod a b iha ihb =>
  intro off w u f h
  simp only [nO] at h
  split at h
  ·rename_i hlt
   obtain ⟨⟨v,g⟩,h1,h2⟩:=Option.map_eq_some_iff.1 h
   cases h2
   obtain ⟨k1,k2,k3⟩:=iha _ _ _ _ h1
   refine ⟨by simp only [Ty.size];omega,k2,fun x=>?_⟩
   simp only [k3,enc]
   rw [nG (by rw [ak];exact k1)]
  ·rename_i hge
   obtain ⟨⟨v,g⟩,h1,h2⟩:=Option.map_eq_some_iff.1 h
   cases h2
   obtain ⟨k1,k2,k3⟩:=ihb _ _ _ _ h1
   refine ⟨by simp only [Ty.size];omega,k2,fun x=>?_⟩
   simp only [k3,enc]
   rw [sH (by rw [ak];omega),ak]
 | st a ih =>
  intro off w u f h
  simp only [nO] at h
  split at h
  ·rename_i hc
   cases h
   exact ⟨by omega,hc.2,fun x=>by rw [hc.1,List.drop_zero,List.take_of_length_le (by rw [ak];exact Nat.le_refl _)]⟩
  ·obtain ⟨⟨v,g⟩,h1,h2⟩:=Option.map_eq_some_iff.1 h
   cases h2
   obtain ⟨k1,k2,k3⟩:=ih _ _ _ _ h1
   exact ⟨k1,k2,fun x=>k3 x⟩
 | arr n t ih =>
  intro off w u f h
  simp only [nO] at h
  split at h
  ·rename_i hc
   cases h
   exact ⟨by omega,hc.2,fun x=>by rw [hc.1,List.drop_zero,List.take_of_length_le (by rw [ak];exact Nat.le_refl _)]⟩
  ·split at h
   ·rename_i hd
    obtain ⟨⟨v,g⟩,h1,h2⟩:=Option.map_eq_some_iff.1 h
    cases h2
    obtain ⟨k1,k2,k3⟩:=ih _ _ _ _ h1
    have e:off / t.size * t.size+off % t.size=off:=by rw [Nat.mul_comm];exact Nat.div_add_mod off t.size
    refine ⟨?_,k2,fun x=>?_⟩
    ·have:=mul_div_le hd.2
     have hm:=Nat.mod_le off t.size
     simp only [Ty.size];omega
    ·simp only [k3]
     rw [← sJ x hd.2 k1,e]
   ·cases h
 | _=>exact base _
theorem WW:∀ {t:Ty} {u:Ty} {off:Nat} {w:Option Ty} {f:t.den→u.den},nO t off w=some ⟨u,f⟩→∀ {x:t.den},Val.wf ⟨t,x⟩→Val.wf ⟨u,f x⟩:=by
 have base:∀ {t:Ty} {u:Ty} {off:Nat} {w:Option Ty} {f:t.den→u.den},(if off=0∧hit t w=true then some (⟨t,fun x=>x⟩:(u:Ty)×(t.den→u.den)) else none)=some ⟨u,f⟩→∀ {x:t.den},Val.wf ⟨t,x⟩→Val.wf ⟨u,f x⟩:=by
  intro t u off w f h x hx
  split at h
  ·cases h;exact hx
  ·cases h
 intro t
 induction t with
 | prod a b iha ihb =>
  intro u off w f h x hx
  simp only [nO] at h
  split at h
  all_goals
   obtain ⟨⟨v,g⟩,h1,h2⟩:=Option.map_eq_some_iff.1 h
   cases h2
  ·exact iha h1 (uD.1 hx).1
  ·exact ihb h1 (uD.1 hx).2
 | st a ih =>
  intro u off w f h x hx
  simp only [nO] at h
  split at h
  ·cases h;exact hx
  ·obtain ⟨⟨v,g⟩,h1,h2⟩:=Option.map_eq_some_iff.1 h
   cases h2
   exact ih h1 hx
 | arr n t ih =>
  intro u off w f h x hx
  simp only [nO] at h
  split at h
  ·cases h;exact hx
  ·split at h
   ·obtain ⟨⟨v,g⟩,h1,h2⟩:=Option.map_eq_some_iff.1 h
    cases h2
    exact ih h1 (hx _)
   ·cases h
 | _=>intro u off w f h x hx;exact base h hx
def vw:(t u:Ty)→Nat→Option ((v:Ty)×(t.den→u.den→v.den))
 | .prod a b,u,off=>if off<a.size then (vw a u off).map fun r=>⟨.prod r.1 b,fun x y=>(r.2 x.1 y,x.2)⟩ else (vw b u (off - a.size)).map fun r=>⟨.prod a r.1,fun x y=>(x.1,r.2 x.2 y)⟩
 | .st a,u,off=>if off=0∧(Ty.st a).like u=true then some ⟨u,fun _ y=>y⟩ else (vw a u off).map fun r=>⟨.st r.1,fun x y=>r.2 x y⟩
 | .arr n t,u,off=>if off=0∧(Ty.arr n t).like u=true then some ⟨u,fun _ y=>y⟩ else
   if h:t.size≠0∧off / t.size<n then match vw t u (off % t.size) with
    | some ⟨v,f⟩=>if hv:v=t then some ⟨.arr n t,fun g y=>fun j=>if j=⟨off / t.size,h.2⟩ then hv ▸ f (g ⟨off / t.size,h.2⟩) y else g j⟩ else none
    | none=>none
   else none
 | .unit,_,_=>none
 | .mp _ _,_,_=>none
 | t,u,off=>if off=0∧t.like u=true then some ⟨u,fun _ y=>y⟩ else none
def over {α:Type} (cs ds:List α) (off:Nat):List α:=cs.take off++ds++cs.drop (off+ds.length)
theorem kU {α:Type} {cs ds:List α} {off:Nat} (h:off+ds.length≤cs.length):(over cs ds off).length=cs.length:=by
 simp only [over,List.length_append,List.length_take,List.length_drop];omega
theorem sK {α:Type} {a b ds:List α} {off:Nat} (h:off+ds.length≤a.length):over (a++b) ds off=over a ds off++b:=by
 simp only [over]
 rw [List.take_append_of_le_length (by omega),List.drop_append_of_le_length (by omega)];simp
theorem pX {α:Type} {a b ds:List α} {off:Nat} (h:a.length≤off):over (a++b) ds off=a++over b ds (off - a.length):=by
 simp only [over]
 rw [List.take_append,List.take_of_length_le h,List.drop_append,List.drop_eq_nil_of_le (by omega)]
 simp only [List.nil_append,List.append_assoc]
 rw [show off+ds.length - a.length=off - a.length+ds.length by omega]
theorem jd {α:Type} {cs ds:List α} (h:cs.length=ds.length):over cs ds 0=ds:=by
 simp only [over,List.take_zero,List.nil_append,Nat.zero_add]
 rw [List.drop_eq_nil_of_le (by omega),List.append_nil]
theorem Ht {n:Nat} {t:Ty} (f:Fin n→t.den) (i:Fin n) (y:t.den):∀ (l:List (Fin n)) (k:Nat) (hk:k<l.length),l[k]=i→l.Nodup →
  (l.flatMap fun j=>enc t (if j=i then y else f j))=over (l.flatMap fun j=>enc t (f j)) (enc t y) (k * t.size):=by
 intro l
 induction l with
 | nil=>intro k hk;simp at hk
 | cons x l ih =>
  intro k hk he hn
  simp only [List.flatMap_cons]
  rw [List.nodup_cons] at hn
  cases k with
  | zero =>
   simp only [List.getElem_cons_zero] at he
   subst he
   rw [Nat.zero_mul,sK (by simp [ak]),jd (by simp [ak]),if_pos rfl]
   congr 1
   simp only [List.flatMap_def]
   congr 1
   exact List.map_congr_left fun j hj=>by
    have:j≠x:=fun e=>hn.1 (by rw [← e];exact hj)
    rw [if_neg this]
  | succ k =>
   simp only [List.getElem_cons_succ] at he
   have hx:x≠i:=fun e=>hn.1 (by rw [e,← he];exact List.getElem_mem _)
   rw [if_neg hx,ih k (by simpa using hk) he hn.2,pX (by rw [ak,Nat.succ_mul];omega),ak,Nat.succ_mul,Nat.add_sub_cancel]
theorem LY {α:Type} {A b C c:List α} {p:Nat} (h:p+c.length≤b.length):over (A++(b++C)) (over b c p) A.length=over (A++(b++C)) c (A.length+p):=by
 have hl:=kU h
 have h1:over (A++(b++C)) (over b c p) A.length=A++(over b c p++C):=by
  rw [pX (Nat.le_refl _),Nat.sub_self,sK (by omega),jd (by omega)]
 have h2:over (A++(b++C)) c (A.length+p)=A++(over b c p++C):=by
  rw [pX (by omega),Nat.add_sub_cancel_left,sK (by omega)]
 rw [h1,h2]
theorem xJ {α:Type} {a b c:List α} {o p:Nat} (h:p+c.length≤b.length) (hb:o+b.length≤a.length) (hs:(a.drop o).take b.length=b):over a (over b c p) o=over a c (o+p):=by
 have e:a=a.take o++(b++a.drop (o+b.length)):=by
  conv=>lhs;rw [← List.take_append_drop o a,← List.take_append_drop b.length (a.drop o)]
  rw [hs,List.drop_drop]
 have ht:(a.take o).length=o:=by rw [List.length_take];omega
 have:=LY (A:=a.take o) (C:=a.drop (o+b.length)) h
 rw [← e,ht] at this;exact this
theorem OM {n:Nat} {t:Ty} (f:Fin n→t.den) (i:Fin n) (y:t.den):enc (.arr n t) (fun j=>if j=i then y else f j)=over (enc (.arr n t) f) (enc t y) (i.1 * t.size) :=
 Ht f i y (List.finRange n) i.1 (by simp) (by simp) (List.nodup_finRange n)
theorem jF:∀ (t u:Ty) (off:Nat) (v:Ty) (f:t.den→u.den→v.den),vw t u off=some ⟨v,f⟩ →
  off+u.size≤t.size∧v.size=t.size∧v.ag=t.ag∧∀ x y,enc v (f x y)=over (enc t x) (enc u y) off:=by
 have base:∀ (t u:Ty) (off:Nat) (v:Ty) (f:t.den→u.den→v.den),(if off=0∧t.like u=true then some (⟨u,fun _ y=>y⟩:(v:Ty)×(t.den→u.den→v.den)) else none)=some ⟨v,f⟩ →
   off+u.size≤t.size∧v.size=t.size∧v.ag=t.ag∧∀ x y,enc v (f x y)=over (enc t x) (enc u y) off:=by
  intro t u off v f h
  split at h
  ·rename_i hc
   cases h
   have hl:=Ty.xH hc.2
   exact ⟨by omega,hl.1.symm,hl.2.symm,fun x y=>by rw [hc.1,jd (by rw [ak,ak,hl.1])]⟩
  ·cases h
 intro t
 induction t with
 | prod a b iha ihb =>
  intro u off v f h
  simp only [vw] at h
  split at h
  ·obtain ⟨⟨v',g⟩,h1,h2⟩:=Option.map_eq_some_iff.1 h
   cases h2
   obtain ⟨k1,k2,_,k3⟩:=iha _ _ _ _ h1
   refine ⟨by simp only [Ty.size];omega,by simp only [Ty.size,k2],rfl,fun x y=>?_⟩
   simp only [k3,enc]
   rw [sK (by rw [ak,ak];exact k1)]
  ·rename_i hge
   obtain ⟨⟨v',g⟩,h1,h2⟩:=Option.map_eq_some_iff.1 h
   cases h2
   obtain ⟨k1,k2,_,k3⟩:=ihb _ _ _ _ h1
   refine ⟨by simp only [Ty.size];omega,by simp only [Ty.size,k2],rfl,fun x y=>?_⟩
   simp only [k3,enc]
   rw [pX (by rw [ak];omega),ak]
 | st a ih =>
  intro u off v f h
  simp only [vw] at h
  split at h
  ·rename_i hc
   cases h
   have hl:=Ty.xH hc.2
   exact ⟨by omega,hl.1.symm,hl.2.symm,fun x y=>by rw [hc.1,jd (by rw [ak,ak,hl.1])]⟩
  ·obtain ⟨⟨v',g⟩,h1,h2⟩:=Option.map_eq_some_iff.1 h
   cases h2
   obtain ⟨k1,k2,_,k3⟩:=ih _ _ _ _ h1
   exact ⟨k1,k2,rfl,fun x y=>k3 x y⟩
 | arr n t ih =>
  intro u off v f h
  simp only [vw] at h
  split at h
  ·rename_i hc
   cases h
   have hl:=Ty.xH hc.2
   exact ⟨by omega,hl.1.symm,hl.2.symm,fun x y=>by rw [hc.1,jd (by rw [ak,ak,hl.1])]⟩
  ·split at h
   ·rename_i hd
    split at h
    ·rename_i v' g h1
     split at h
     ·rename_i hv
      subst hv
      cases h
      obtain ⟨k1,k2,_,k3⟩:=ih _ _ _ _ h1
      have e:off / v'.size * v'.size+off % v'.size=off:=by rw [Nat.mul_comm];exact Nat.div_add_mod off v'.size
      have:=mul_div_le hd.2
      have hm:=Nat.mod_le off v'.size
      refine ⟨by simp only [Ty.size];omega,rfl,rfl,fun x y=>?_⟩
      rw [OM,k3]
      simp only
      rw [xJ (by rw [ak,ak];exact k1) (by rw [ak,ak];simp only [Ty.size];omega),e]
      have:=sJ x (o:=0) (m:=v'.size) hd.2 (by omega)
      simp only [Nat.add_zero,List.drop_zero] at this
      rw [ak,this,List.take_of_length_le (by rw [ak];exact Nat.le_refl _)]
     ·cases h
    ·cases h
   ·cases h
 | unit=>intro u off v f h;simp [vw] at h
 | mp k t=>intro u off v f h;simp [vw] at h
 | _=>exact base _
theorem Zq:∀ {t u v:Ty} {off:Nat} {f:t.den→u.den→v.den},vw t u off=some ⟨v,f⟩→∀ {x:t.den} {y:u.den},Val.wf ⟨t,x⟩→Val.wf ⟨u,y⟩→Val.wf ⟨v,f x y⟩:=by
 have base:∀ {t u v:Ty} {off:Nat} {f:t.den→u.den→v.den},(if off=0∧t.like u=true then some (⟨u,fun _ y=>y⟩:(v:Ty)×(t.den→u.den→v.den)) else none)=some ⟨v,f⟩→∀ {x:t.den} {y:u.den},Val.wf ⟨t,x⟩→Val.wf ⟨u,y⟩→Val.wf ⟨v,f x y⟩:=by
  intro t u v off f h x y hx hy
  split at h
  ·cases h;exact hy
  ·cases h
 intro t
 induction t with
 | prod a b iha ihb =>
  intro u v off f h x y hx hy
  simp only [vw] at h
  split at h
  all_goals
   obtain ⟨⟨v',g⟩,h1,h2⟩:=Option.map_eq_some_iff.1 h
   cases h2
  ·exact ⟨iha h1 hx.1 hy,hx.2⟩
  ·exact ⟨hx.1,ihb h1 hx.2 hy⟩
 | st a ih =>
  intro u v off f h x y hx hy
  simp only [vw] at h
  split at h
  ·cases h;exact hy
  ·obtain ⟨⟨v',g⟩,h1,h2⟩:=Option.map_eq_some_iff.1 h
   cases h2
   exact ih h1 (x:=x) (y:=y) hx hy
 | arr n t ih =>
  intro u v off f h x y hx hy
  simp only [vw] at h
  split at h
  ·cases h;exact hy
  ·split at h
   ·split at h
    ·rename_i v' g h1
     split at h
     ·rename_i hv
      subst hv
      cases h
      intro j
      show wfT _ (if _ then _ else _)
      split
      ·exact ih h1 (hx _) hy
      ·exact hx j
     ·cases h
    ·cases h
   ·cases h
 | unit=>intro u v off f h;simp [vw] at h
 | mp k t=>intro u v off f h;simp [vw] at h
 | _=>intro u v off f h x y hx hy;exact base h hx hy
end Go.Tx
namespace Go.Tx
open Go Go.Ab
def eqT:(t:Ty)→Option (t.den→t.den→Bool)
 | .int _=>some fun x y=>x==y
 | .bool=>some fun x y=>x==y
 | .unit=>some fun _ _=>true
 | .prod a b=>match eqT a,eqT b with | some f,some g=>some fun x y=>f x.1 y.1&&g x.2 y.2 | _,_=>none
 | .st a=>match eqT a with | some f=>some fun x y=>f x y | none=>none
 | .arr n t=>match eqT t with | some f=>some fun x y=>(List.finRange n).all fun i=>f (x i) (y i) | none=>none
 | _=>none
def jT:Ty→Option (List Bool)
 | .int _=>some [false]
 | .bool=>some [true]
 | .unit=>some []
 | .prod a b=>match jT a,jT b with | some x,some y=>some (x++y) | _,_=>none
 | .st a=>jT a
 | .arr n t=>(jT t).map fun ks=>(List.replicate n ks).flatten
 | _=>none
theorem pY:∀ {t:Ty} {ks:List Bool},jT t=some ks→ks.length=t.size:=by
 intro t
 induction t with
 | prod a b iha ihb =>
  intro ks h
  simp only [jT] at h
  split at h
  ·rename_i x y hx hy;cases h;simp [Ty.size,iha hx,ihb hy]
  ·cases h
 | st a ih=>intro ks h;exact ih h
 | arr n t ih =>
  intro ks h
  obtain ⟨k,h1,rfl⟩:=Option.map_eq_some_iff.1 h
  simp [Ty.size,ih h1]
 | int k=>intro ks h;cases h;rfl
 | bool=>intro ks h;cases h;rfl
 | unit=>intro ks h;cases h;rfl
 | _=>intro ks h;simp [jT] at h
theorem Jv {ks bs:List Bool} {a b c d:List D} {r s:Bool} (h1:kG ks a b=some r) (h2:kG bs c d=some s) (ha:a.length=ks.length) (hb:b.length=ks.length):kG (ks++bs) (a++c) (b++d)=some (r&&s):=by
 induction ks generalizing a b r with
 | nil =>
  have ea:a=[]:=List.eq_nil_of_length_eq_zero ha
  have eb:b=[]:=List.eq_nil_of_length_eq_zero hb
  subst ea;subst eb
  simp only [kG] at h1;cases h1
  simpa using h2
 | cons k ks ih =>
  cases a with
  | nil=>simp at ha
  | cons x a=>cases b with
   | nil=>simp at hb
   | cons y b =>
    have ha' : a.length=ks.length:=by simpa using ha
    have hb' : b.length=ks.length:=by simpa using hb
    rw [List.cons_append,List.cons_append,List.cons_append]
    cases k with
    | true =>
     cases x with
     | v x=>cases x with
      | bool p=>cases y with
       | v y=>cases y with
        | bool q =>
         simp only [kG] at h1 ⊢
         split at h1
         ·rename_i r' hr
          cases h1
          rw [ih hr ha' hb'];simp [Bool.and_assoc]
         ·cases h1
        | _=>simp [kG] at h1
       | _=>simp [kG] at h1
      | _=>simp [kG] at h1
     | _=>simp [kG] at h1
    | false =>
     cases x with
     | v x=>cases x with
      | int kp p=>cases y with
       | v y=>cases y with
        | int kq q =>
         simp only [kG] at h1 ⊢
         split at h1
         ·rename_i hk
          rw [if_pos hk]
          split at h1
          ·rename_i r' hr
           cases h1
           rw [ih hr ha' hb'];simp [Bool.and_assoc]
          ·cases h1
         ·cases h1
        | _=>simp [kG] at h1
       | _=>simp [kG] at h1
      | _=>simp [kG] at h1
     | _=>simp [kG] at h1
theorem WX {t:Ty} {ks:List Bool} {f:t.den→t.den→Bool} (hk:jT t=some ks) (h:∀ x y,kG ks (enc t x) (enc t y)=some (f x y)) {n:Nat} (x y:Fin n→t.den):∀ l:List (Fin n),
  kG (List.replicate l.length ks).flatten (l.flatMap fun i=>enc t (x i)) (l.flatMap fun i=>enc t (y i))=some (l.all fun i=>f (x i) (y i)):=by
 intro l
 induction l with
 | nil=>rfl
 | cons i l ih =>
  simp only [List.length_cons,List.replicate_succ,List.flatten_cons,List.flatMap_cons,List.all_cons]
  exact Jv (h _ _) ih (by rw [ak,pY hk]) (by rw [ak,pY hk])
theorem Vx:∀ {t:Ty} {ks:List Bool} {f:t.den→t.den→Bool},jT t=some ks→eqT t=some f→∀ x y,kG ks (enc t x) (enc t y)=some (f x y):=by
 intro t
 induction t with
 | prod a b iha ihb =>
  intro ks f hk hf x y
  simp only [jT] at hk
  simp only [eqT] at hf
  split at hk
  ·rename_i k1 k2 h1 h2
   split at hf
   ·rename_i f1 f2 g1 g2
    cases hk;cases hf
    exact Jv (iha h1 g1 _ _) (ihb h2 g2 _ _) (by rw [ak,pY h1]) (by rw [ak,pY h1])
   ·cases hf
  ·cases hk
 | st a ih =>
  intro ks f hk hf x y
  simp only [eqT] at hf
  split at hf
  ·rename_i g hg
   cases hf
   exact ih hk hg x y
  ·cases hf
 | arr n t ih =>
  intro ks f hk hf x y
  obtain ⟨k,h1,rfl⟩:=Option.map_eq_some_iff.1 hk
  simp only [eqT] at hf
  split at hf
  ·rename_i g hg
   cases hf
   have:=WX h1 (ih h1 hg) x y (List.finRange n)
   simp only [List.length_finRange] at this
   exact this
  ·cases hf
 | int k=>intro ks f hk hf x y;cases hk;cases hf;simp [enc,kG]
 | bool=>intro ks f hk hf x y;cases hk;cases hf;simp [enc,kG]
 | unit=>intro ks f hk hf x y;cases hk;cases hf;rfl
 | _=>intro ks f hk;simp [jT] at hk
inductive P1 where
 | part (off:Nat) (w:Option Ty) | len | neg | not | conv (k:IntKind) | mk | fst | snd | some1 | nonneg | sort
 deriving DecidableEq
inductive P2 where
 | bin (op:BinOp) | pair | upd (off:Nat) | mget | mhas | mput
 deriving DecidableEq
def jU (o:P1) (t:Ty):Option ((u:Ty)×(t.den→u.den)) :=
 match o,t with
 | .part off w,t=>nO t off w
 | .len,.sl _=>some ⟨.int .i64,fun l=>(l.length:Int)⟩
 | .len,.str=>some ⟨.int .i64,fun (s:ByteArray)=>(s.size:Int)⟩
 | .neg,.int k=>some ⟨.int k,fun (n:Int)=>k.wrap (0 - n)⟩
 | .not,.bool=>some ⟨.bool,fun (b:Bool)=>!b⟩
 | .conv k,.int _=>some ⟨.int k,fun (n:Int)=>k.wrap n⟩
 | .mk,a=>some ⟨.st a,fun x=>x⟩
 | .fst,.prod a _=>some ⟨a,fun x=>x.1⟩
 | .snd,.prod _ b=>some ⟨b,fun x=>x.2⟩
 | .some1,.sl _=>some ⟨.bool,fun l=>!l.isEmpty⟩
 | .sort,.sl (.int k)=>some ⟨.sl (.int k),fun (l:List Int)=>l.mergeSort (fun a b=>decide (a≤b))⟩
 | .nonneg,.int _=>some ⟨.bool,fun (n:Int)=>decide (0≤n)⟩
 | _,_=>none
def WY (op:BinOp) (k:IntKind):Option ((u:Ty)×(Int→Int→u.den)) :=
 match op with
 | .eql=>some ⟨.bool,fun a b=>a==b⟩
 | .neq=>some ⟨.bool,fun a b=>a != b⟩
 | .lss=>some ⟨.bool,fun a b=>decide (a<b)⟩
 | .leq=>some ⟨.bool,fun a b=>decide (a≤b)⟩
 | .gtr=>some ⟨.bool,fun a b=>decide (a>b)⟩
 | .geq=>some ⟨.bool,fun a b=>decide (a≥b)⟩
 | .add=>some ⟨.int k,fun a b=>k.wrap (a+b)⟩
 | .sub=>some ⟨.int k,fun a b=>k.wrap (a - b)⟩
 | .mul=>some ⟨.int k,fun a b=>k.wrap (a * b)⟩
 | .and=>some ⟨.int k,fun a b=>Nz k a b⟩
 | .or=>some ⟨.int k,fun a b=>orI k a b⟩
 | .xor=>some ⟨.int k,fun a b=>tZ k a b⟩
 | .andNot=>some ⟨.int k,fun a b=>NK k a b⟩
 | _=>none
def bK {α:Type} (z:α) (l:List (Int×α)) (a:Int):α:=match l with
 | []=>z
 | (b,c)::l=>if a=b then c else bK z l a
def Hu {α:Type} (l:List (Int×α)) (a:Int):Bool:=match l with
 | []=>false
 | (b,_)::l=>if a=b then true else Hu l a
def jV {α:Type} (l:List (Int×α)) (a:Int) (c:α):List (Int×α):=match l with
 | []=>[(a,c)]
 | (b,e)::l=>if a=b then (a,c)::l else (b,e)::jV l a c
def lX (o:P2) (t u:Ty):Option ((v:Ty)×(t.den→u.den→v.den)) :=
 match o,t,u with
 | .bin op,.int k,.int q=>if k=q then WY op k else none
 | .bin .eql,.bool,.bool=>some ⟨.bool,fun a b=>a==b⟩
 | .bin .neq,.bool,.bool=>some ⟨.bool,fun a b=>!(a==b)⟩
 | .bin .eql,.str,.str=>some ⟨.bool,fun (a b:ByteArray)=>a.toList==b.toList⟩
 | .bin .neq,.str,.str=>some ⟨.bool,fun (a b:ByteArray)=>!(a.toList==b.toList)⟩
 | .bin op,.st a,.st b=>if h:b=a then (match eqT a,op with
   | some f,.eql=>some ⟨.bool,fun x (y:b.den)=>f x (h ▸ y)⟩
   | some f,.neq=>some ⟨.bool,fun x (y:b.den)=>!(f x (h ▸ y))⟩
   | _,_=>none) else none
 | .bin op,.arr n a,.arr m b=>if h:Ty.arr m b=Ty.arr n a then (match eqT (.arr n a),op with
   | some f,.eql=>some ⟨.bool,fun x (y:(Ty.arr m b).den)=>f x (h ▸ y)⟩
   | some f,.neq=>some ⟨.bool,fun x (y:(Ty.arr m b).den)=>!(f x (h ▸ y))⟩
   | _,_=>none) else none
 | .pair,t,u=>some ⟨.prod t u,fun x y=>(x,y)⟩
 | .upd off,t,u=>vw t u off
 | .mget,.mp k t,.int q=>if k=q then some ⟨t,fun l a=>bK t.zero l a⟩ else none
 | .mhas,.mp k _,.int q=>if k=q then some ⟨.bool,fun l a=>Hu l a⟩ else none
 | .mput,.mp k t,.prod (.int q) u=>if h:u=t then (if k=q then some ⟨.mp k t,fun l x=>jV l x.1 (h ▸ x.2)⟩ else none) else none
 | _,_,_=>none
inductive E where
 | var (i:Nat) | int (k:IntKind) (n:Int) | bool (b:Bool) | str (s:ByteArray) | cst (c:Cst) | zero (t:Ty) | p1 (o:P1) (x:E) | p2 (o:P2) (x y:E) | pick (c x y:E)
 deriving Inhabited
def app1 (o:P1):Option Val→Option Val
 | some v=>(jU o v.1).map fun r=>⟨r.1,r.2 v.2⟩
 | none=>none
def Jw (o:P2):Option Val→Option Val→Option Val
 | some v,some u=>(lX o v.1 u.1).map fun r=>⟨r.1,r.2 v.2 u.2⟩
 | _,_=>none
def Zr:Option Val→Option Val→Option Val→Option Val
 | some ⟨.bool,c⟩,some v,some u=>if h:u.1=v.1 then some ⟨v.1,if c=true then v.2 else h ▸ u.2⟩ else none
 | _,_,_=>none
def E.val (env:List Val):E→Option Val
 | .var i=>env[i]?
 | .int k n=>if inR k n=true then some ⟨.int k,n⟩ else none
 | .bool b=>some ⟨.bool,b⟩
 | .str s=>if s.size≤9223372036854775807 then some ⟨.str,s⟩ else none
 | .cst c=>some ⟨.cst c,()⟩
 | .zero t=>some ⟨t,t.zero⟩
 | .p1 o x=>app1 o (x.val env)
 | .p2 o x y=>Jw o (x.val env) (y.val env)
 | .pick c x y=>Zr (c.val env) (x.val env) (y.val env)
def bW (env:List Val):Prop:=∀ v∈env,v.wf
theorem TI {o:P1} {t u:Ty} {f:t.den→u.den} (h:jU o t=some ⟨u,f⟩) {x:t.den} (hx:Val.wf ⟨t,x⟩):Val.wf ⟨u,f x⟩:=by
 unfold jU at h
 split at h
 ·exact WW h hx
 ·cases h;have:=(gG.1 hx).1;rw [jD];simp [inR];omega
 ·cases h;have:=OJ.1 hx;rw [jD];simp [inR];omega
 ·cases h;exact jD.2 (dN _ _)
 ·cases h;exact gV
 ·cases h;exact jD.2 (dN _ _)
 ·cases h;exact Zp.2 hx
 ·cases h;exact (uD.1 hx).1
 ·cases h;exact (uD.1 hx).2
 ·cases h;exact gV
 ·cases h
  refine gG.2 ⟨by rw [List.length_mergeSort];exact (gG.1 hx).1,fun y hy=>(gG.1 hx).2 y (List.mem_mergeSort.1 hy)⟩
 ·cases h;exact gV
 ·cases h
theorem WZ {op:BinOp} {k:IntKind} {u:Ty} {f:Int→Int→u.den} (h:WY op k=some ⟨u,f⟩) (x y:Int):Val.wf ⟨u,f x y⟩:=by
 unfold WY at h
 split at h <;> first
  | (cases h;exact gV)
  | (cases h;exact jD.2 (dN _ _))
  | cases h
theorem W9 {t:Ty} {l:List (Int×t.den)} {a:Int} (h:∀ x∈l,Val.wf ⟨t,x.2⟩):Val.wf ⟨t,bK t.zero l a⟩:=by
 induction l with
 | nil=>exact qQ t
 | cons x l ih =>
  obtain ⟨b,c⟩:=x
  simp only [bK]
  split
  ·exact h _ List.mem_cons_self
  ·exact ih fun x hx=>h x (List.mem_cons_of_mem _ hx)
theorem Xa {t:Ty} {l:List (Int×t.den)} {a:Int} {c:t.den} (h:∀ x∈l,Val.wf ⟨t,x.2⟩) (hc:Val.wf ⟨t,c⟩):∀ x∈jV l a c,Val.wf ⟨t,x.2⟩:=by
 induction l with
 | nil=>intro x hx;simp only [jV,List.mem_singleton] at hx;subst hx;exact hc
 | cons y l ih =>
  obtain ⟨b,e⟩:=y
  intro x hx
  simp only [jV] at hx
  split at hx
  ·rcases List.mem_cons.1 hx with rfl | hx
   ·exact hc
   ·exact h x (List.mem_cons_of_mem _ hx)
  ·rcases List.mem_cons.1 hx with rfl | hx
   ·exact h _ List.mem_cons_self
   ·exact ih (fun x hx=>h x (List.mem_cons_of_mem _ hx)) x hx
theorem TJ {o:P2} {t u v:Ty} {f:t.den→u.den→v.den} (h:lX o t u=some ⟨v,f⟩) {x:t.den} {y:u.den} (hx:Val.wf ⟨t,x⟩) (hy:Val.wf ⟨u,y⟩):Val.wf ⟨v,f x y⟩:=by
 unfold lX at h
 split at h
 ·split at h
  ·exact WZ h x y
  ·cases h
 ·cases h;exact gV
 ·cases h;exact gV
 ·cases h;exact gV
 ·cases h;exact gV
 ·split at h
  ·split at h
   ·cases h;exact gV
   ·cases h;exact gV
   ·cases h
  ·cases h
 ·split at h
  ·split at h
   ·cases h;exact gV
   ·cases h;exact gV
   ·cases h
  ·cases h
 ·cases h;exact ⟨hx,hy⟩
 ·exact Zq h hx hy
 ·split at h
  ·cases h;exact W9 (WV.1 hx)
  ·cases h
 ·split at h
  ·cases h;exact gV
  ·cases h
 ·split at h
  ·rename_i e
   subst e
   split at h
   ·cases h;exact Xa (WV.1 hx) (uD.1 hy).2
   ·cases h
  ·cases h
 ·cases h
theorem E.vC {env:List Val} (he:bW env):∀ {x:E} {v:Val},x.val env=some v→v.wf:=by
 intro x
 induction x with
 | var i=>intro v h;exact he v (List.mem_of_getElem? h)
 | int k n =>
  intro v h
  simp only [E.val] at h
  split at h
  ·cases h;exact jD.2 (by assumption)
  ·cases h
 | bool b=>intro v h;cases h;exact gV
 | str s =>
  intro v h
  simp only [E.val] at h
  split at h
  ·cases h;exact OJ.2 (by assumption)
  ·cases h
 | cst c=>intro v h;cases h;exact Vw
 | zero t=>intro v h;cases h;exact qQ t
 | p1 o x ih =>
  intro v h
  simp only [E.val,app1] at h
  split at h
  ·rename_i a ha
   obtain ⟨⟨u,f⟩,h1,h2⟩:=Option.map_eq_some_iff.1 h
   subst h2
   exact TI h1 (ih ha)
  ·cases h
 | p2 o x y ihx ihy =>
  intro v h
  simp only [E.val,Jw] at h
  split at h
  ·rename_i a b ha hb
   obtain ⟨⟨u,f⟩,h1,h2⟩:=Option.map_eq_some_iff.1 h
   subst h2
   exact TJ h1 (ihx ha) (ihy hb)
  ·cases h
 | pick c x y _ ihx ihy =>
  intro v h
  simp only [E.val,Zr] at h
  split at h
  ·rename_i b a c' hc ha hb
   split at h
   ·rename_i e
    obtain ⟨t1,a1⟩:=a
    obtain ⟨t2,a2⟩:=c'
    simp only at e;subst e
    cases h
    show Val.wf ⟨t2,if b=true then a1 else a2⟩
    split
    ·exact ihx ha
    ·exact ihy hb
   ·cases h
  ·cases h
theorem E.dh {env:List Val} (l:List Val):∀ {x:E} {v:Val},x.val env=some v→x.val (env++l)=some v:=by
 intro x
 induction x with
 | var i=>intro v h;obtain ⟨hi,e⟩:=List.getElem?_eq_some_iff.1 h;simp only [E.val];rw [List.getElem?_append_left hi];exact h
 | p1 o x ih =>
  intro v h
  simp only [E.val,app1] at h ⊢
  split at h
  ·rename_i a ha;rw [ih ha];exact h
  ·cases h
 | p2 o x y ihx ihy =>
  intro v h
  simp only [E.val,Jw] at h ⊢
  split at h
  ·rename_i a b ha hb;rw [ihx ha,ihy hb];exact h
  ·cases h
 | pick c x y ihc ihx ihy =>
  intro v h
  simp only [E.val,Zr] at h ⊢
  split at h
  ·rename_i b a c' hc ha hb;rw [ihc hc,ihx ha,ihy hb];exact h
  ·cases h
 | _=>intro v h;exact h
def E.lt (n:Nat):E→Bool
 | .var i=>decide (i<n)
 | .p1 _ x=>x.lt n
 | .p2 _ x y=>x.lt n&&y.lt n
 | .pick c x y=>c.lt n&&x.lt n&&y.lt n
 | _=>true
theorem E.oC {env:List Val} (l:List Val):∀ {x:E},x.lt env.length=true→x.val (env++l)=x.val env:=by
 intro x
 induction x with
 | var i=>intro h;simp only [E.lt,decide_eq_true_eq] at h;simp only [E.val];rw [List.getElem?_append_left h]
 | p1 o x ih=>intro h;simp only [E.lt] at h;simp only [E.val,ih h]
 | p2 o x y ihx ihy=>intro h;simp only [E.lt,Bool.and_eq_true] at h;simp only [E.val,ihx h.1,ihy h.2]
 | pick c x y ihc ihx ihy=>intro h;simp only [E.lt,Bool.and_eq_true] at h;simp only [E.val,ihc h.1.1,ihx h.1.2,ihy h.2]
 | _=>intro h;rfl
def E.same:E→E→Bool
 | .var i,.var j=>Nat.beq i j
 | .int k n,.int q m=>decide (k=q)&&decide (n=m)
 | .bool a,.bool b=>a==b
 | .str a,.str b=>decide (a=b)
 | .cst a,.cst b=>decide (a=b)
 | .zero a,.zero b=>decide (a=b)
 | .p1 o x,.p1 p y=>x.same y&&decide (o=p)
 | .p2 o x y,.p2 p u v=>x.same u&&y.same v&&decide (o=p)
 | .pick a b c,.pick d e f=>a.same d&&b.same e&&c.same f
 | _,_=>false
theorem E.same_eq:∀ {x y:E},x.same y=true→x=y:=by
 intro x
 induction x <;> intro y h <;> cases y <;> simp only [E.same,Bool.false_eq_true,Bool.and_eq_true,decide_eq_true_eq,beq_iff_eq] at h
 case var.var i j=>rw [Nat.eq_of_beq_eq_true h]
 case int.int k n q m=>rw [h.1,h.2]
 case bool.bool a b=>rw [h]
 case str.str a b=>rw [h]
 case cst.cst a b=>rw [h]
 case zero.zero a b=>rw [h]
 case p1.p1 o x ih p y=>rw [h.2,ih h.1]
 case p2.p2 o x y ihx ihy p u v=>rw [h.2,ihx h.1.1,ihy h.1.2]
 case pick.pick a b c iha ihb ihc d e f=>rw [iha h.1.1,ihb h.1.2,ihc h.2]
def E.size:E→Nat
 | .p1 _ x=>x.size+1
 | .p2 _ x y=>x.size+y.size+1
 | .pick c x y=>c.size+x.size+y.size+1
 | _=>1
def ty1 (o:P1) (t:Ty):Option Ty:=(jU o t).map (·.1)
def ty2 (o:P2) (t u:Ty):Option Ty:=(lX o t u).map (·.1)
def tyE (Γ:List Ty):E→Option Ty
 | .var i=>Γ[i]?
 | .int k n=>if inR k n=true then some (.int k) else none
 | .bool _=>some .bool
 | .str s=>if s.size≤9223372036854775807 then some .str else none
 | .cst c=>some (.cst c)
 | .zero t=>some t
 | .p1 o x=>match tyE Γ x with | some t=>ty1 o t | none=>none
 | .p2 o x y=>match tyE Γ x,tyE Γ y with | some t,some u=>ty2 o t u | _,_=>none
 | .pick c x y=>match tyE Γ c,tyE Γ x,tyE Γ y with | some .bool,some t,some u=>if u=t then some t else none | _,_,_=>none
theorem Zt {env:List Val} {o:P1} {t u:Ty} {x:E} {a:t.den} (h:ty1 o t=some u) (hx:x.val env=some ⟨t,a⟩):∃ f,jU o t=some ⟨u,f⟩∧(E.p1 o x).val env=some ⟨u,f a⟩:=by
 obtain ⟨⟨v,f⟩,h1,h2⟩:=Option.map_eq_some_iff.1 h
 simp only at h2;subst h2
 exact ⟨f,h1,by simp [E.val,app1,hx,h1]⟩
theorem Hw {env:List Val} {o:P2} {t u v:Ty} {x y:E} {a:t.den} {b:u.den} (h:ty2 o t u=some v) (hx:x.val env=some ⟨t,a⟩) (hy:y.val env=some ⟨u,b⟩):∃ f,lX o t u=some ⟨v,f⟩∧(E.p2 o x y).val env=some ⟨v,f a b⟩:=by
 obtain ⟨⟨w,f⟩,h1,h2⟩:=Option.map_eq_some_iff.1 h
 simp only at h2;subst h2
 exact ⟨f,h1,by simp [E.val,Jw,hx,hy,h1]⟩
theorem je {env:List Val} {c x z:E} {t:Ty} {b:Bool} {a1 a2:t.den} (hc:c.val env=some ⟨.bool,b⟩) (hx:x.val env=some ⟨t,a1⟩) (hz:z.val env=some ⟨t,a2⟩):(E.pick c x z).val env=some ⟨t,if b=true then a1 else a2⟩:=by
 simp [E.val,Zr,hc,hx,hz]
theorem OO {env:List Val} {Γ:List Ty} (hg:env.map (·.1)=Γ):∀ {x:E} {t:Ty},tyE Γ x=some t→∃ a,x.val env=some ⟨t,a⟩:=by
 intro x
 induction x with
 | var i =>
  intro t h
  simp only [tyE,← hg,List.getElem?_map] at h
  obtain ⟨⟨u,a⟩,h1,h2⟩:=Option.map_eq_some_iff.1 h
  simp only at h2;subst h2
  exact ⟨a,h1⟩
 | int k n =>
  intro t h
  simp only [tyE] at h
  split at h
  ·rename_i hc;cases h;exact ⟨n,by simp [E.val,hc]⟩
  ·cases h
 | str s =>
  intro t h
  simp only [tyE] at h
  split at h
  ·rename_i hc;cases h;exact ⟨s,by simp [E.val,hc]⟩
  ·cases h
 | bool b=>intro t h;cases h;exact ⟨b,rfl⟩
 | cst c=>intro t h;cases h;exact ⟨(),rfl⟩
 | zero u=>intro t h;cases h;exact ⟨_,rfl⟩
 | p1 o x ih =>
  intro t h
  simp only [tyE] at h
  split at h
  ·rename_i u hu
   obtain ⟨a,ha⟩:=ih hu
   obtain ⟨f,_,h2⟩:=Zt h ha
   exact ⟨_,h2⟩
  ·cases h
 | p2 o x y ihx ihy =>
  intro t h
  simp only [tyE] at h
  split at h
  ·rename_i u v hu hv
   obtain ⟨a,ha⟩:=ihx hu
   obtain ⟨b,hb⟩:=ihy hv
   obtain ⟨f,_,h2⟩:=Hw h ha hb
   exact ⟨_,h2⟩
  ·cases h
 | pick c x y ihc ihx ihy =>
  intro t h
  simp only [tyE] at h
  split at h
  ·rename_i u v hc hu hv
   split at h
   ·rename_i e
    cases h
    subst e
    obtain ⟨b,hb⟩:=ihc hc
    obtain ⟨a1,h1⟩:=ihx hu
    obtain ⟨a2,h2⟩:=ihy hv
    exact ⟨_,je hb h1 h2⟩
   ·cases h
  ·cases h
end Go.Tx
namespace Go.Tx
open Go Go.Ab
inductive R2 where
 | idx | UL | sidx | par (op:BinOp) | app (bytes:Nat) | rep (bytes:Nat) | cpy
inductive R3 where
 | slc | aset | lset | ins (bytes:Nat) | del
def CB (o:R2) (t u:Ty):Option ((v:Ty)×(t.den→u.den→Option v.den)) :=
 match o,t,u with
 | .idx,.sl t,.int _=>some ⟨t,fun l (i:Int)=>if 0≤i then l[i.toNat]? else none⟩
 | .UL,.arr n t,.int _=>some ⟨t,fun f (i:Int)=>if h:0≤i∧i.toNat<n then some (f ⟨i.toNat,h.2⟩) else none⟩
 | .sidx,.str,.int _=>some ⟨.int .u8,fun (s:ByteArray) (i:Int)=>if 0≤i then (s[i.toNat]?).map fun c=>(c.toNat:Int) else none⟩
 | .par .quo,.int k,.int q=>if k=q then some ⟨.int k,fun (a b:Int)=>if b≠0 then some (k.wrap (a.tdiv b)) else none⟩ else none
 | .par .rem,.int k,.int q=>if k=q then some ⟨.int k,fun (a b:Int)=>if b≠0 then some (a.tmod b) else none⟩ else none
 | .par .shl,.int k,.int _=>some ⟨.int k,fun (a b:Int)=>if 0≤b then some (k.wrap (a * 2 ^ (min b.toNat k.bits))) else none⟩
 | .par .shr,.int k,.int _=>some ⟨.int k,fun (a b:Int)=>if 0≤b then some (a.fdiv (2 ^ (min b.toNat k.bits))) else none⟩
 | .app bytes,.sl t,.sl u=>if h:u=t then (if bytes≠0 then some ⟨.sl t,fun a (b:List u.den)=>if (a.length+b.length) * bytes≤140737488355328 then some (a++(h ▸ b:List t.den)) else none⟩ else none) else none
 | .rep bytes,t,.int _=>if bytes≠0 then some ⟨.sl t,fun z (n:Int)=>if 0≤n∧n.toNat * bytes≤140737488355328 then some (List.replicate n.toNat z) else none⟩ else none
 | .cpy,.sl t,.sl u=>if h:u=t then some ⟨.sl t,fun a (b:List u.den)=>some ((h ▸ b:List t.den).take a.length++a.drop b.length)⟩ else none
 | _,_,_=>none
def LZ (o:R3) (t u v:Ty):Option ((w:Ty)×(t.den→u.den→v.den→Option w.den)) :=
 match o,t,u,v with
 | .slc,.sl t,.int _,.int _=>some ⟨.sl t,fun l (lo hi:Int)=>if 0≤lo∧lo≤hi∧hi≤l.length then some ((l.take hi.toNat).drop lo.toNat) else none⟩
 | .aset,.arr n t,.int _,v=>if h:v=t then some ⟨.arr n t,fun f (i:Int) (x:v.den)=>if hi:0≤i∧i.toNat<n then some (fun j=>if j=⟨i.toNat,hi.2⟩ then (h ▸ x:t.den) else f j) else none⟩ else none
 | .lset,.sl t,.int _,v=>if h:v=t then some ⟨.sl t,fun l (i:Int) (x:v.den)=>if 0≤i∧i.toNat<l.length then some (l.set i.toNat (h ▸ x:t.den)) else none⟩ else none
 | .ins bytes,.sl t,.int _,.sl u=>if h:u=t then (if bytes≠0 then some ⟨.sl t,fun l (i:Int) (ys:List u.den)=>if 0≤i∧i≤l.length∧(l.length+ys.length) * bytes≤140737488355328 then some (l.take i.toNat++(h ▸ ys:List t.den)++l.drop i.toNat) else none⟩ else none) else none
 | .del,.sl t,.int _,.int _=>some ⟨.sl t,fun l (i j:Int)=>if 0≤i∧i<j∧j≤l.length then some (l.take i.toNat++l.drop j.toNat) else none⟩
 | _,_,_,_=>none
inductive B where
 | lets (x:E) | guard (c:E) | r2 (o:R2) (x y:E) | r3 (o:R3) (x y z:E) | call (g:Nat) (args:List E) | list (t:Ty) (es:List E) | ifb (gs:List E) (b:B) (t:Ty)
def Hy (t:Ty):List Val→Option (List t.den)
 | []=>some []
 | v::vs=>if h:v.1=t then (Hy t vs).map fun l=>(h ▸ v.2)::l else none
def holds (env:List Val):List E→Option Bool
 | []=>some true
 | g::gs=>match g.val env,holds env gs with
  | some ⟨.bool,b⟩,some r=>some (b&&r)
  | _,_=>none
def evs (env:List Val):List E→Option (List Val)
 | []=>some []
 | e::es=>match e.val env,evs env es with
  | some v,some vs=>some (v::vs)
  | _,_=>none
abbrev Calls':=Nat→List Val→Val→Prop
def B.ok (CS:Calls') (env:List Val) (v:Val):B→Prop
 | .lets x=>x.val env=some v
 | .guard c=>c.val env=some ⟨.bool,true⟩∧v=⟨.unit,()⟩
 | .r2 o x y=>∃ a b r c,x.val env=some a∧y.val env=some b∧CB o a.1 b.1=some r∧r.2 a.2 b.2=some c∧v=⟨r.1,c⟩
 | .r3 o x y z=>∃ a b d r c,x.val env=some a∧y.val env=some b∧z.val env=some d∧LZ o a.1 b.1 d.1=some r∧r.2 a.2 b.2 d.2=some c∧v=⟨r.1,c⟩
 | .call g args=>∃ vs,evs env args=some vs∧CS g vs v
 | .list t es=>∃ vs l,evs env es=some vs∧Hy t vs=some l∧es.length≤16777216∧v=⟨.sl t,l⟩
 | .ifb gs b t=>∃ c,holds env gs=some c∧(c=true→b.ok CS env v∧v.1=t)∧(c=false→v=⟨t,t.zero⟩)
inductive T where
 | fail | hole (i:Nat) | jump (j:Nat) (es:List E) | bind (b:B) (t:Ty) (k:T) | ite (c:E) (x y:T)
 | letj (ps:List Ty) (k body:T)
 | loop (ps:List Ty) (init:List E) (body:T)
 | range (ps:List Ty) (init:List E) (l:E) (body done:T)
 deriving Inhabited
abbrev Jt:=Nat→List Val→Prop
def kE (K:List Val→Prop) (J:Jt):Jt
 | 0=>K
 | j+1=>J j
def oD (ps:List Ty) (F:(List Val→Prop)→List Val→Prop):Nat→List Val→Prop
 | 0,_=>False
 | n+1,vs=>vs.map (·.1)=ps∧F (oD ps F n) vs
def xK {α:Type} (ps:List Ty) (F:(List Val→Prop)→Int→α→List Val→Prop) (done:List Val→Prop):List α→Int→List Val→Prop
 | [],_,vs=>vs.map (·.1)=ps∧done vs
 | x::l,i,vs=>vs.map (·.1)=ps∧F (xK ps F done l (i+1)) i x vs
def T.sat (CS:Calls'):T→Jt→(Nat→List Val→Prop)→List Val→Prop
 | .fail,_,_,_=>False
 | .hole i,_,Q,env=>Q i env
 | .jump j es,J,_,env=>∃ vs,evs env es=some vs∧J j vs
 | .bind b t k,J,Q,env=>∃ v:Val,v.1=t∧b.ok CS env v∧k.sat CS J Q (env++[v])
 | .ite c x y,J,Q,env=>∃ b,c.val env=some ⟨.bool,b⟩∧(b=true→x.sat CS J Q env)∧(b=false→y.sat CS J Q env)
 | .letj ps k body,J,Q,env=>body.sat CS (kE (fun vs=>vs.map (·.1)=ps∧k.sat CS J Q (env++vs)) J) Q env
 | .loop ps init body,J,Q,env=>∃ n vs,evs env init=some vs∧oD ps (fun again vs=>body.sat CS (kE again J) Q (env++vs)) n vs
 | .range ps init l body done,J,Q,env=>∃ (t:Ty) (es:List t.den) (vs:List Val),l.val env=some ⟨.sl t,es⟩∧evs env init=some vs ∧
   xK ps (fun again i x vs=>body.sat CS (kE again J) Q (env++vs++[⟨.int .i64,i⟩,⟨t,x⟩])) (fun vs=>done.sat CS J Q (env++vs)) es 0 vs
section
variable {CS:Calls'}
theorem vF {ps:List Ty} {F G:(List Val→Prop)→List Val→Prop} (h:∀ K K' vs,(∀ x,K x→K' x)→F K vs→G K' vs):∀ n vs,oD ps F n vs→oD ps G n vs
 | 0,_,h'=>h'
 | n+1,vs,h'=>⟨h'.1,h _ _ _ (vF h n) h'.2⟩
theorem xM {α:Type} {ps:List Ty} {F G:(List Val→Prop)→Int→α→List Val→Prop} {d e:List Val→Prop} (h:∀ K K' i x vs,(∀ x,K x→K' x)→F K i x vs→G K' i x vs) (hd:∀ vs,d vs→e vs):∀ l i vs,xK ps F d l i vs→xK ps G e l i vs
 | [],_,vs,h'=>⟨h'.1,hd _ h'.2⟩
 | _::l,i,vs,h'=>⟨h'.1,h _ _ _ _ _ (xM h hd l (i+1)) h'.2⟩
theorem uF {K K' : List Val→Prop} {J J' : Jt} (hK:∀ vs,K vs→K' vs) (hJ:∀ j vs,J j vs→J' j vs):∀ j vs,kE K J j vs→kE K' J' j vs
 | 0,vs,h=>hK vs h
 | j+1,vs,h=>hJ j vs h
theorem T.aW:∀ {t:T} {J J' : Jt} {Q Q' : Nat→List Val→Prop} {env:List Val},(∀ j vs,J j vs→J' j vs)→(∀ i e,Q i e→Q' i e)→t.sat CS J Q env→t.sat CS J' Q' env:=by
 intro t
 induction t with
 | fail=>intro _ _ _ _ _ _ _ h;exact h
 | hole i=>intro _ _ _ _ _ _ hQ h;exact hQ _ _ h
 | jump j es=>intro _ _ _ _ _ hJ _ h;obtain ⟨vs,h1,h2⟩:=h;exact ⟨vs,h1,hJ _ _ h2⟩
 | bind b t k ih=>intro _ _ _ _ _ hJ hQ h;obtain ⟨v,h0,h1,h2⟩:=h;exact ⟨v,h0,h1,ih hJ hQ h2⟩
 | ite c x y ihx ihy=>intro _ _ _ _ _ hJ hQ h;obtain ⟨b,h1,h2,h3⟩:=h;exact ⟨b,h1,fun e=>ihx hJ hQ (h2 e),fun e=>ihy hJ hQ (h3 e)⟩
 | letj ps k body ihk ihb=>intro _ _ _ _ _ hJ hQ h;exact ihb (uF (fun vs hv=>⟨hv.1,ihk hJ hQ hv.2⟩) hJ) hQ h
 | loop ps init body ih =>
  intro _ _ _ _ _ hJ hQ h
  obtain ⟨n,vs,h1,h2⟩:=h
  refine ⟨n,vs,h1,vF ?_ n vs h2⟩
  intro K K' vs hK h
  exact ih (uF hK hJ) hQ h
 | range ps init l body done ihb ihd =>
  intro _ _ _ _ _ hJ hQ h
  obtain ⟨t,es,vs,h1,h2,h3⟩:=h
  refine ⟨t,es,vs,h1,h2,xM ?_ ?_ es 0 vs h3⟩
  ·intro K K' i x vs hK h
   exact ihb (uF hK hJ) hQ h
  ·intro vs h
   exact ihd hJ hQ h
def T.lift (c:Nat):T→T
 | .jump j es=>.jump (if j<c then j else j+1) es
 | .bind b t k=>.bind b t (k.lift c)
 | .ite e x y=>.ite e (x.lift c) (y.lift c)
 | .letj ps k body=>.letj ps (k.lift c) (body.lift (c+1))
 | .loop ps init body=>.loop ps init (body.lift (c+1))
 | .range ps init l body done=>.range ps init l (body.lift (c+1)) (done.lift c)
 | t=>t
def T.sub (σ:Nat→T):T→T
 | .hole i=>σ i
 | .bind b t k=>.bind b t (k.sub σ)
 | .ite e x y=>.ite e (x.sub σ) (y.sub σ)
 | .letj ps k body=>.letj ps (k.sub σ) (body.sub fun i=>(σ i).lift 0)
 | .loop ps init body=>.loop ps init (body.sub fun i=>(σ i).lift 0)
 | .range ps init l body done=>.range ps init l (body.sub fun i=>(σ i).lift 0) (done.sub σ)
 | t=>t
def cut (c:Nat) (J:Jt):Jt:=fun j=>J (if j<c then j else j+1)
theorem CG (c:Nat) (K:List Val→Prop) (J:Jt):kE K (cut c J)=cut (c+1) (kE K J):=by
 funext j
 cases j with
 | zero=>simp [kE,cut]
 | succ j =>
  simp only [kE,cut,Nat.add_lt_add_iff_right]
  split <;> rfl
theorem T.mV:∀ {t:T} {c:Nat} {J:Jt} {Q:Nat→List Val→Prop} {env:List Val},(t.lift c).sat CS J Q env=t.sat CS (cut c J) Q env:=by
 intro t
 induction t with
 | fail=>intros;rfl
 | hole i=>intros;rfl
 | jump j es=>intros;rfl
 | bind b t k ih=>intros;simp only [T.lift,T.sat,ih]
 | ite c x y ihx ihy=>intros;simp only [T.lift,T.sat,ihx,ihy]
 | letj ps k body ihk ihb=>intros;simp only [T.lift,T.sat,ihk,ihb,CG]
 | loop ps init body ih=>intros;simp only [T.lift,T.sat,ih,CG]
 | range ps init l body done ihb ihd=>intros;simp only [T.lift,T.sat,ihb,ihd,CG]
theorem mW (K:List Val→Prop) (J:Jt):cut 0 (kE K J)=J:=by
 funext j;simp [cut,kE]
theorem T.uG:∀ {t:T} {σ:Nat→T} {J:Jt} {Q:Nat→List Val→Prop} {env:List Val},(t.sub σ).sat CS J Q env=t.sat CS J (fun i e=>(σ i).sat CS J Q e) env:=by
 intro t
 induction t with
 | fail=>intros;rfl
 | hole i=>intros;rfl
 | jump j es=>intros;rfl
 | bind b t k ih=>intros;simp only [T.sub,T.sat,ih]
 | ite c x y ihx ihy=>intros;simp only [T.sub,T.sat,ihx,ihy]
 | letj ps k body ihk ihb=>intros;simp only [T.sub,T.sat,ihk,ihb,T.mV,mW]
 | loop ps init body ih=>intros;simp only [T.sub,T.sat,ih,T.mV,mW]
 | range ps init l body done ihb ihd=>intros;simp only [T.sub,T.sat,ihb,ihd,T.mV,mW]
theorem Xb {o:R2} {t u v:Ty} {f:t.den→u.den→Option v.den} (h:CB o t u=some ⟨v,f⟩) {x:t.den} {y:u.den} {c:v.den} (hf:f x y=some c) (hx:Val.wf ⟨t,x⟩) (hy:Val.wf ⟨u,y⟩):Val.wf ⟨v,c⟩:=by
 unfold CB at h
 split at h
 ·cases h
  simp only at hf
  split at hf
  ·exact (gG.1 hx).2 c (List.mem_of_getElem? hf)
  ·cases hf
 ·cases h
  simp only at hf
  split at hf
  ·cases hf;exact Ju.1 hx _
  ·cases hf
 ·cases h
  simp only at hf
  split at hf
  ·obtain ⟨c',_,rfl⟩:=Option.map_eq_some_iff.1 hf
   refine jD.2 ?_
   have:=c'.toNat_lt
   simp [inR];omega
  ·cases hf
 ·split at h
  ·cases h;simp only at hf;split at hf
   ·cases hf;exact jD.2 (dN _ _)
   ·cases hf
  ·cases h
 ·split at h
  ·cases h;simp only at hf;split at hf
   ·rename_i hb;cases hf;exact jD.2 (Jg hb (jD.1 hx))
   ·cases hf
  ·cases h
 ·cases h;simp only at hf;split at hf
  ·cases hf;exact jD.2 (dN _ _)
  ·cases hf
 ·cases h;simp only at hf;split at hf
  ·cases hf;exact jD.2 (Jf _ (jD.1 hx))
  ·cases hf
 ·split at h
  ·rename_i e
   subst e
   split at h
   ·rename_i hb
    cases h;simp only at hf;split at hf
    ·rename_i hle
     cases hf
     refine gG.2 ⟨?_,fun z hz=>?_⟩
     ·simp only [List.length_append]
      have h1:=Nat.le_mul_of_pos_right (x.length+y.length) (Nat.pos_of_ne_zero hb)
      omega
     ·rcases List.mem_append.1 hz with hz | hz
      ·exact (gG.1 hx).2 z hz
      ·exact (gG.1 hy).2 z hz
    ·cases hf
   ·cases h
  ·cases h
 ·split at h
  ·rename_i hb
   cases h
   simp only at hf
   split at hf
   ·rename_i hle
    cases hf
    refine gG.2 ⟨?_,fun z hz=>by rw [List.eq_of_mem_replicate hz];exact hx⟩
    rw [List.length_replicate]
    have h1:=Nat.le_mul_of_pos_right (Int.toNat y) (Nat.pos_of_ne_zero hb)
    omega
   ·cases hf
  ·cases h
 ·split at h
  ·rename_i e
   subst e
   cases h
   simp only [Option.some.injEq] at hf
   subst hf
   refine gG.2 ⟨?_,fun z hz=>?_⟩
   ·have:=(gG.1 hx).1
    have:=(gG.1 hy).1
    simp only [List.length_append,List.length_take,List.length_drop];omega
   ·rcases List.mem_append.1 hz with hz | hz
    ·exact (gG.1 hy).2 z (List.mem_of_mem_take hz)
    ·exact (gG.1 hx).2 z (List.mem_of_mem_drop hz)
  ·cases h
 ·cases h
theorem Xc {o:R3} {t u v w:Ty} {f:t.den→u.den→v.den→Option w.den} (h:LZ o t u v=some ⟨w,f⟩) {x:t.den} {y:u.den} {z:v.den} {c:w.den} (hf:f x y z=some c) (hx:Val.wf ⟨t,x⟩) (hz:Val.wf ⟨v,z⟩):Val.wf ⟨w,c⟩:=by
 unfold LZ at h
 split at h
 ·cases h
  simp only at hf
  split at hf
  ·cases hf
   refine gG.2 ⟨?_,fun q hq=>(gG.1 hx).2 q (List.mem_of_mem_take (List.mem_of_mem_drop hq))⟩
   have:=(gG.1 hx).1
   simp only [List.length_drop,List.length_take];omega
  ·cases hf
 ·split at h
  ·rename_i e
   subst e
   cases h
   simp only at hf
   split at hf
   ·cases hf
    refine Ju.2 fun j=>?_
    split
    ·exact hz
    ·exact Ju.1 hx j
   ·cases hf
  ·cases h
 ·split at h
  ·rename_i e
   subst e
   cases h
   simp only at hf
   split at hf
   ·cases hf
    refine gG.2 ⟨by rw [List.length_set];exact (gG.1 hx).1,fun q hq=>?_⟩
    rcases List.mem_or_eq_of_mem_set hq with hq | rfl
    ·exact (gG.1 hx).2 q hq
    ·exact hz
   ·cases hf
  ·cases h
 ·split at h
  ·rename_i e
   subst e
   split at h
   ·rename_i hb
    cases h
    simp only at hf
    split at hf
    ·rename_i hle
     cases hf
     refine gG.2 ⟨?_,fun q hq=>?_⟩
     ·obtain ⟨_,h2,h3⟩:=hle
      have h1:=Nat.le_mul_of_pos_right (x.length+z.length) (Nat.pos_of_ne_zero hb)
      simp only [List.length_append,List.length_take,List.length_drop];omega
     ·rcases List.mem_append.1 hq with hq | hq
      ·rcases List.mem_append.1 hq with hq | hq
       ·exact (gG.1 hx).2 q (List.mem_of_mem_take hq)
       ·exact (gG.1 hz).2 q hq
      ·exact (gG.1 hx).2 q (List.mem_of_mem_drop hq)
    ·cases hf
   ·cases h
  ·cases h
 ·cases h
  simp only at hf
  split at hf
  ·cases hf
   refine gG.2 ⟨?_,fun q hq=>?_⟩
   ·have:=(gG.1 hx).1
    simp only [List.length_append,List.length_take,List.length_drop];omega
   ·rcases List.mem_append.1 hq with hq | hq
    ·exact (gG.1 hx).2 q (List.mem_of_mem_take hq)
    ·exact (gG.1 hx).2 q (List.mem_of_mem_drop hq)
  ·cases hf
 ·cases h
theorem Jy {t:Ty}:∀ {vs:List Val} {l:List t.den},Hy t vs=some l→(∀ v∈vs,v.wf)→l.length=vs.length∧∀ x∈l,Val.wf ⟨t,x⟩
 | [],l,h,_=>by cases h;simp
 | v::vs,l,h,hw=>by
  obtain ⟨u,x⟩:=v
  simp only [Hy] at h
  split at h
  ·rename_i e
   subst e
   obtain ⟨l',h1,h2⟩:=Option.map_eq_some_iff.1 h
   subst h2
   obtain ⟨k1,k2⟩:=Jy h1 fun v hv=>hw v (List.mem_cons_of_mem _ hv)
   refine ⟨by simp [k1],fun y hy=>?_⟩
   rcases List.mem_cons.1 hy with rfl | hy
   ·exact hw _ List.mem_cons_self
   ·exact k2 y hy
  ·cases h
theorem OQ {env:List Val}:∀ {es:List E} {vs:List Val},evs env es=some vs→vs.length=es.length
 | [],vs,h=>by cases h;rfl
 | e::es,vs,h=>by
  simp only [evs] at h
  split at h
  ·rename_i v vs' h1 h2;cases h;simp [OQ h2]
  ·cases h
def oG (CS:Calls'):Prop:=∀ g vs v,CS g vs v→v.wf
theorem bW.app {env l:List Val} (h:bW env) (hl:∀ v∈l,v.wf):bW (env++l):=fun v hv=>(List.mem_append.1 hv).elim (h v) (hl v)
theorem bW.snoc {env:List Val} {v:Val} (h:bW env) (hv:v.wf):bW (env++[v]):=h.app (by simpa using hv)
theorem evs_wf {env:List Val} (he:bW env):∀ {es:List E} {vs:List Val},evs env es=some vs→∀ v∈vs,v.wf
 | [],vs,h=>by cases h;simp
 | e::es,vs,h=>by
  simp only [evs] at h
  split at h
  ·rename_i v vs' h1 h2
   cases h
   intro x hx
   rcases List.mem_cons.1 hx with rfl | hx
   ·exact E.vC he h1
   ·exact evs_wf he h2 x hx
  ·cases h
theorem B.TK (hCS:oG CS) {env:List Val} {v:Val} (he:bW env):∀ {b:B},b.ok CS env v→v.wf
 | .lets _,h=>E.vC he h
 | .guard _,h=>by rw [h.2];exact OL
 | .r2 o x y,⟨a,b,r,c,h1,h2,h3,h4,h5⟩=>by rw [h5];exact Xb h3 h4 (E.vC he h1) (E.vC he h2)
 | .r3 o x y z,⟨a,b,d,r,c,h1,h2,h3,h4,h5,h6⟩=>by rw [h6];exact Xc h4 h5 (E.vC he h1) (E.vC he h3)
 | .call g args,⟨vs,h1,h2⟩=>hCS _ _ _ h2
 | .list t es,⟨vs,l,h1,h2,h3,h4⟩=>by
  obtain ⟨k1,k2⟩:=Jy h2 (evs_wf he h1)
  have:=OQ h1
  rw [h4];exact gG.2 ⟨by omega,k2⟩
 | .ifb gs b t,⟨c,h1,h2,h3⟩=>by
  cases c with
  | true=>exact B.TK hCS he (h2 rfl).1
  | false=>rw [h3 rfl];exact qQ t
abbrev WfL (vs:List Val):Prop:=∀ v∈vs,v.wf
theorem T.uH (hCS:oG CS):∀ {t:T} {J:Jt} {Q:Nat→List Val→Prop} {env:List Val},bW env→t.sat CS J Q env →
  t.sat CS (fun j vs=>WfL vs∧J j vs) (fun i e=>(∃ l,e=env++l)∧bW e∧Q i e) env:=by
 intro t
 induction t with
 | fail=>intro J Q env he h;exact h
 | hole i=>intro J Q env he h;exact ⟨⟨[],by simp⟩,he,h⟩
 | jump j es=>intro J Q env he h;obtain ⟨vs,h1,h2⟩:=h;exact ⟨vs,h1,evs_wf he h1,h2⟩
 | bind b t k ih =>
  intro J Q env he h
  obtain ⟨v,h0,h1,h2⟩:=h
  exact ⟨v,h0,h1,T.aW (fun _ _ h=>h) (fun i e h=>⟨by obtain ⟨⟨l,e⟩,_⟩:=h;exact ⟨v::l,by simp [e]⟩,h.2⟩) (ih (he.snoc (B.TK hCS he h1)) h2)⟩
 | ite c x y ihx ihy=>intro J Q env he h;obtain ⟨b,h1,h2,h3⟩:=h;exact ⟨b,h1,fun e=>ihx he (h2 e),fun e=>ihy he (h3 e)⟩
 | letj ps k body ihk ihb =>
  intro J Q env he h
  refine T.aW (t:=body) ?_ (fun _ _ h=>h) (ihb he h)
  intro j vs hj
  cases j with
  | zero=>exact ⟨hj.2.1,T.aW (fun _ _ h=>h) (fun i e h=>⟨by obtain ⟨⟨l,e⟩,_⟩:=h;exact ⟨vs++l,by simp [e]⟩,h.2⟩) (ihk (he.app hj.1) hj.2.2)⟩
  | succ j=>exact hj
 | loop ps init body ih =>
  intro J Q env he h
  obtain ⟨n,vs,h1,h2⟩:=h
  refine ⟨n,vs,h1,?_⟩
  have key:∀ n vs,WfL vs→oD ps (fun again vs=>body.sat CS (kE again J) Q (env++vs)) n vs →
    oD ps (fun again vs=>body.sat CS (kE again fun j vs=>WfL vs∧J j vs) (fun i e=>(∃ l,e=env++l)∧bW e∧Q i e) (env++vs)) n vs:=by
   intro n
   induction n with
   | zero=>intro vs _ h;exact h
   | succ n ihn =>
    intro vs hw h
    refine ⟨h.1,T.aW ?_ (fun i e h=>⟨by obtain ⟨⟨l,e⟩,_⟩:=h;exact ⟨vs++l,by simp [e]⟩,h.2⟩) (ih (he.app hw) h.2)⟩
    intro j us hj
    cases j with
    | zero=>exact ihn us hj.1 hj.2
    | succ j=>exact hj
  exact key n vs (evs_wf he h1) h2
 | range ps init l body done ihb ihd =>
  intro J Q env he h
  obtain ⟨t,es,vs,h1,h2,h3⟩:=h
  refine ⟨t,es,vs,h1,h2,?_⟩
  have hsl:=gG.1 (E.vC he h1)
  have key:∀ (es:List t.den) (i:Int) (vs:List Val),(∀ x∈es,Val.wf ⟨t,x⟩)→0≤i→i+es.length≤9223372036854775807→WfL vs→xK ps (fun again i x vs=>body.sat CS (kE again J) Q (env++vs++[⟨.int .i64,i⟩,⟨t,x⟩])) (fun vs=>done.sat CS J Q (env++vs)) es i vs →
    xK ps (fun again i x vs=>body.sat CS (kE again fun j vs=>WfL vs∧J j vs) (fun i e=>(∃ l,e=env++l)∧bW e∧Q i e) (env++vs++[⟨.int .i64,i⟩,⟨t,x⟩])) (fun vs=>done.sat CS (fun j vs=>WfL vs∧J j vs) (fun i e=>(∃ l,e=env++l)∧bW e∧Q i e) (env++vs)) es i vs:=by
   intro es
   induction es with
   | nil =>
    intro i vs _ _ _ hw h
    exact ⟨h.1,T.aW (fun _ _ h=>h) (fun i e h=>⟨by obtain ⟨⟨l,e⟩,_⟩:=h;exact ⟨vs++l,by simp [e]⟩,h.2⟩) (ihd (he.app hw) h.2)⟩
   | cons x es ihn =>
    intro i' vs hes hi hle hw h
    have hl:(x::es).length=es.length+1:=rfl
    refine ⟨h.1,T.aW ?_ (fun i e h=>⟨by obtain ⟨⟨l,e⟩,_⟩:=h;exact ⟨vs++([⟨.int .i64,i'⟩,⟨t,x⟩]++l),by simp [e]⟩,h.2⟩) (ihb ((he.app hw).app ?_) h.2)⟩
    ·intro j us hj
     cases j with
     | zero=>exact ihn (i' + 1) us (fun x hx=>hes x (List.mem_cons_of_mem _ hx)) (by omega) (by omega) hj.1 hj.2
     | succ j=>exact hj
    ·intro v hv
     simp only [List.mem_cons,List.not_mem_nil,or_false] at hv
     rcases hv with rfl | rfl
     ·exact jD.2 (by simp [inR];omega)
     ·exact hes x List.mem_cons_self
  exact key es 0 vs hsl.2 (by omega) (by have:=hsl.1;omega) (evs_wf he h2) h3
end
end Go.Tx
namespace Go.Tx
open Go Go.Ab
inductive SV where
 | e (t:Ty) (x:E)
 | nil
 | own (id:Name) (sz:Nat) (t:Ty) (x:E)
 | ptr (n:Name) (off:Nat)
 | aptr (n:Name) (off m:Nat) (t:Ty) (i:E) (inn:Nat)
 | ref (t:Ty) (x:E) (off:Nat)
 | fn (f:Nat) (cap:List SV)
 | yld (l:Name)
 | mref (n:Name)
 | mpc (k:IntKind) (t:Ty) (x:E)
 | agg (cs:List SV)
 | mix (t:Ty) (x:E) (os:List Nat) (zs:List SV)
 | tup (vs:List SV)
 | kd (cs:List Value)
 | gd (gs:List E) (x:SV)
 | vsl (n:Name)
 | vpt (n:Name) (t:Ty) (i:E) (inn:Nat)
 | dead
 deriving Inhabited
def Vy:(t:Ty)→t.den→Option Value
 | .int k,n=>some (.int k n)
 | .bool,b=>some (.bool b)
 | .str,s=>some (.string s)
 | .cst c,_=>some c.val
 | _,_=>none
theorem Jz {t:Ty} {x:t.den} {c:Value} (h:Vy t x=some c):bD t x = .v c:=by
 cases t <;> simp [Vy] at h <;> subst h <;> rfl
def typed (env:List Val):SV→Prop
 | .e t x=>∃ a,x.val env=some ⟨t,a⟩
 | .ref t x _=>∃ a,x.val env=some ⟨t,a⟩
 | .own _ _ t x=>∃ a,x.val env=some ⟨.sl t,a⟩
 | _=>True
theorem OT {env:List Val} (l:List Val) {x:SV} (h:typed env x):typed (env++l) x:=by
 cases x <;> simp only [typed] at h ⊢
 all_goals (obtain ⟨a,h⟩:=h;exact ⟨a,E.dh l h⟩)
mutual
def ah (env:List Val):SV→V→Prop
 | .e t x,v=>∃ a,x.val env=some ⟨t,a⟩∧v = .d (bD t a)
 | .nil,v=>v = .nil
 | .own id sz t x,v=>∃ a:List t.den,x.val env=some ⟨.sl t,a⟩∧t.size=sz∧v = .own id sz (a.map (bD t))
 | .ptr n off,v=>v = .ptr n off
 | .aptr n off m t i inn,v=>∃ (k:IntKind) (j:Int),i.val env=some ⟨.int k,j⟩∧0≤j∧j.toNat<m∧v = .ptr n (off+j.toNat * t.size+inn)
 | .ref t x off,v=>∃ a cs,x.val env=some ⟨t,a⟩∧v = .ref cs∧((enc t a).drop off) <+: cs
 | .fn f cap,v=>∃ c,v = .fn f c∧aB env cap c
 | .yld l,v=>v = .yld l
 | .mref n,v=>v = .mref n
 | .mpc k t x,v=>∃ (a:List (Int×t.den)) (kvs:List (Int×Value)),x.val env=some ⟨.mp k t,a⟩∧v = .mpc k kvs∧a.map (fun y=>(y.1,Vy t y.2))=kvs.map (fun y=>(y.1,some y.2))
 | .agg cs,v=>∃ c,v = .agg c∧aB env cs c
 | .mix t x os zs,v=>∃ a c,x.val env=some ⟨t,a⟩∧v = .agg c∧c.length=t.size∧aV env os zs c∧∀ i,i<t.size→i ∉ os→c[i]? = ((enc t a)[i]?).map V.d
 | .tup cs,v=>∃ c,v = .tup c∧aB env cs c
 | .kd cs,v=>v = .d (.agg (cs.map zW))
 | .gd gs x,v=>∃ b,holds env gs=some b∧typed env x∧(b=true→ah env x v)∧(b=false→v = .tup [])
 | .vsl n,v=>v = .vsl n
 | .vpt n t i inn,v=>∃ (k:IntKind) (j:Int),i.val env=some ⟨.int k,j⟩∧0≤j∧v = .vpt n (j.toNat * t.size+inn)
 | .dead,v=>v = .dead
def aB (env:List Val):List SV→List V→Prop
 | [],vs=>vs=[]
 | x::xs,vs=>∃ v vs',vs=v::vs' ∧ ah env x v∧aB env xs vs'
def aV (env:List Val):List Nat→List SV→List V→Prop
 | os,[],c=>os=[]
 | os,z::zs,c=>∃ i os',os=i::os' ∧ (∃ v,c[i]? = some v∧ah env z v)∧aV env os' zs c
end
theorem oH {env:List Val} (l:List Val):∀ {gs:List E} {b:Bool},holds env gs=some b→holds (env++l) gs=some b
 | [],b,h=>h
 | g::gs,b,h=>by
  simp only [holds] at h ⊢
  split at h
  ·rename_i c r h1 h2
   rw [E.dh l h1,oH l h2];exact h
  ·cases h
mutual
theorem ah.app {env:List Val} (l:List Val):∀ {x:SV} {v:V},ah env x v→ah (env++l) x v
 | .e t x,v,h=>by simp only [ah] at h ⊢; obtain ⟨a,h1,h2⟩:=h;exact ⟨a,E.dh l h1,h2⟩
 | .nil,v,h=>h
 | .own id sz t x,v,h=>by simp only [ah] at h ⊢; obtain ⟨a,h1,h2⟩:=h;exact ⟨a,E.dh l h1,h2⟩
 | .ptr n off,v,h=>h
 | .aptr n off m t i inn,v,h=>by simp only [ah] at h ⊢; obtain ⟨k,j,h1,h2⟩:=h;exact ⟨k,j,E.dh l h1,h2⟩
 | .ref t x off,v,h=>by simp only [ah] at h ⊢; obtain ⟨a,cs,h1,h2⟩:=h;exact ⟨a,cs,E.dh l h1,h2⟩
 | .fn f cap,v,h=>by simp only [ah] at h ⊢; obtain ⟨c,h1,h2⟩:=h;exact ⟨c,h1,aB.app l h2⟩
 | .yld n,v,h=>h
 | .mref n,v,h=>h
 | .mpc k t x,v,h=>by simp only [ah] at h ⊢; obtain ⟨a,kvs,h1,h2⟩:=h;exact ⟨a,kvs,E.dh l h1,h2⟩
 | .agg cs,v,h=>by simp only [ah] at h ⊢; obtain ⟨c,h1,h2⟩:=h;exact ⟨c,h1,aB.app l h2⟩
 | .mix t x os zs,v,h=>by simp only [ah] at h ⊢; obtain ⟨a,c,h1,h2,h3,h4,h5⟩:=h;exact ⟨a,c,E.dh l h1,h2,h3,aV.app l h4,h5⟩
 | .tup cs,v,h=>by simp only [ah] at h ⊢; obtain ⟨c,h1,h2⟩:=h;exact ⟨c,h1,aB.app l h2⟩
 | .kd cs,v,h=>h
 | .gd gs x,v,h=>by simp only [ah] at h ⊢; obtain ⟨b,h1,h0,h2,h3⟩:=h;exact ⟨b,oH l h1,OT l h0,fun e=>ah.app l (h2 e),h3⟩
 | .vsl n,v,h=>h
 | .vpt n t i inn,v,h=>by simp only [ah] at h ⊢; obtain ⟨k,j,h1,h2⟩:=h;exact ⟨k,j,E.dh l h1,h2⟩
 | .dead,v,h=>h
theorem aB.app {env:List Val} (l:List Val):∀ {xs:List SV} {vs:List V},aB env xs vs→aB (env++l) xs vs
 | [],vs,h=>h
 | x::xs,vs,h=>by simp only [aB] at h ⊢; obtain ⟨v,vs',h1,h2,h3⟩:=h;exact ⟨v,vs',h1,ah.app l h2,aB.app l h3⟩
theorem aV.app {env:List Val} (l:List Val):∀ {zs:List SV} {os:List Nat} {c:List V},aV env os zs c→aV (env++l) os zs c
 | [],os,c,h=>h
 | z::zs,os,c,h=>by simp only [aV] at h ⊢; obtain ⟨i,os',h1,⟨v,h2,h3⟩,h4⟩:=h;exact ⟨i,os',h1,⟨v,h2,ah.app l h3⟩,aV.app l h4⟩
end
theorem aB.len {env:List Val}:∀ {xs:List SV} {vs:List V},aB env xs vs→vs.length=xs.length
 | [],vs,h=>by simp only [aB] at h;simp [h]
 | x::xs,vs,h=>by simp only [aB] at h;obtain ⟨v,vs',h1,h2,h3⟩:=h;simp [h1,h3.len]
theorem aB.get {env:List Val}:∀ {xs:List SV} {vs:List V},aB env xs vs→∀ {i:Nat} {x:SV},xs[i]? = some x→∃ v,vs[i]? = some v∧ah env x v
 | [],vs,h,i,x,hx=>by simp at hx
 | y::xs,vs,h,i,x,hx=>by
  simp only [aB] at h
  obtain ⟨v,vs',h1,h2,h3⟩:=h
  subst h1
  cases i with
  | zero=>simp at hx;subst hx;exact ⟨v,by simp,h2⟩
  | succ i=>simpa using h3.get (by simpa using hx)
theorem aB.append {env:List Val}:∀ {xs ys:List SV} {vs us:List V},aB env xs vs→aB env ys us→aB env (xs++ys) (vs++us)
 | [],ys,vs,us,h,h'=>by simp only [aB] at h;subst h;exact h'
 | x::xs,ys,vs,us,h,h'=>by
  simp only [aB] at h
  obtain ⟨v,vs',h1,h2,h3⟩:=h
  subst h1
  simp only [List.cons_append,aB]
  exact ⟨v,_,rfl,h2,h3.append h'⟩
theorem aB.drop {env:List Val}:∀ {n:Nat} {xs:List SV} {vs:List V},aB env xs vs→aB env (xs.drop n) (vs.drop n)
 | 0,xs,vs,h=>h
 | n+1,[],vs,h=>by simp only [aB] at h;subst h;simp [aB]
 | n+1,x::xs,vs,h=>by simp only [aB] at h;obtain ⟨v,vs',h1,h2,h3⟩:=h;subst h1;exact h3.drop
theorem aB.take {env:List Val}:∀ {n:Nat} {xs:List SV} {vs:List V},aB env xs vs→aB env (xs.take n) (vs.take n)
 | 0,xs,vs,h=>by simp [aB]
 | n+1,[],vs,h=>by simp only [aB] at h;subst h;simp [aB]
 | n+1,x::xs,vs,h=>by simp only [aB] at h;obtain ⟨v,vs',h1,h2,h3⟩:=h;subst h1;simp only [List.take_succ_cons,aB];exact ⟨v,_,rfl,h2,h3.take⟩
def aG {κ:Type} (env:List Val):List (κ×SV)→List (κ×V)→Prop
 | [],l=>l=[]
 | (k,x)::xs,l=>∃ v l',l=(k,v)::l' ∧ ah env x v∧aG env xs l'
theorem aG.app {κ:Type} {env:List Val} (l:List Val):∀ {xs:List (κ×SV)} {vs:List (κ×V)},aG env xs vs→aG (env++l) xs vs
 | [],vs,h=>h
 | (k,x)::xs,vs,h=>by simp only [aG] at h ⊢; obtain ⟨v,vs',h1,h2,h3⟩:=h;exact ⟨v,vs',h1,h2.app l,h3.app l⟩
def lkS (t:Nat):List (Nat×SV)→SV
 | []=>.dead
 | (s,v)::l=>if s=t then v else lkS t l
def OU (t:Nat) (x:SV):List (Nat×SV)→List (Nat×SV)
 | []=>[(t,x)]
 | (s,v)::l=>if s=t then (s,x)::l else (s,v)::OU t x l
theorem aG.lk {env:List Val} {t:Nat}:∀ {xs:List (Nat×SV)} {vs:List (Nat×V)},aG env xs vs→ah env (lkS t xs) (lkT t vs)
 | [],vs,h=>by simp only [aG] at h;subst h;simp [lkS,lkT,ah]
 | (k,x)::xs,vs,h=>by
  simp only [aG] at h
  obtain ⟨v,vs',h1,h2,h3⟩:=h
  subst h1
  simp only [lkS,lkT]
  split
  ·exact h2
  ·exact h3.lk
theorem aG.set {env:List Val} {t:Nat} {x:SV} {v:V} (hv:ah env x v):∀ {xs:List (Nat×SV)} {vs:List (Nat×V)},aG env xs vs→aG env (OU t x xs) (GI t v vs)
 | [],vs,h=>by simp only [aG] at h;subst h;simp only [OU,GI,aG];exact ⟨v,[],rfl,hv,rfl⟩
 | (k,y)::xs,vs,h=>by
  simp only [aG] at h
  obtain ⟨u,vs',h1,h2,h3⟩:=h
  subst h1
  simp only [OU,GI]
  split
  ·exact ⟨v,vs',rfl,hv,h3⟩
  ·exact ⟨u,_,rfl,h2,h3.set hv⟩
theorem aG.look {env:List Val} {n:Name}:∀ {xs:List (Name×SV)} {vs:List (Name×V)},aG env xs vs→(∀ {x},aj n xs=some x→∃ v,aj n vs=some v∧ah env x v)∧(aj n xs=none→aj n vs=none)
 | [],vs,h=>by simp only [aG] at h;subst h;simp [aj]
 | (k,y)::xs,vs,h=>by
  simp only [aG] at h
  obtain ⟨u,vs',h1,h2,h3⟩:=h
  subst h1
  simp only [aj]
  split
  ·exact ⟨fun e=>by cases e;exact ⟨u,rfl,h2⟩,fun e=>by cases e⟩
  ·exact h3.look
theorem aG.cO {env:List Val} {n:Name} {x:SV} {v:V} (hv:ah env x v):∀ {xs:List (Name×SV)} {vs:List (Name×V)},aG env xs vs→aG env (Ab.cO n x xs) (Ab.cO n v vs)
 | [],vs,h=>by simp only [aG] at h;subst h;simp [Ab.cO,aG]
 | (k,y)::xs,vs,h=>by
  simp only [aG] at h
  obtain ⟨u,vs',h1,h2,h3⟩:=h
  subst h1
  simp only [Ab.cO]
  split
  ·exact ⟨v,vs',rfl,hv,h3⟩
  ·exact ⟨u,_,rfl,h2,h3.cO hv⟩
theorem aG.map {κ:Type} {env:List Val} {f:SV→SV} {g:V→V} (hf:∀ x v,ah env x v→ah env (f x) (g v)):∀ {xs:List (κ×SV)} {vs:List (κ×V)},aG env xs vs→aG env (xs.map fun y=>(y.1,f y.2)) (vs.map fun y=>(y.1,g y.2))
 | [],vs,h=>by simp only [aG] at h;subst h;simp [aG]
 | (k,y)::xs,vs,h=>by
  simp only [aG] at h
  obtain ⟨u,vs',h1,h2,h3⟩:=h
  subst h1
  simp only [List.map_cons,aG]
  exact ⟨_,_,rfl,hf _ _ h2,h3.map hf⟩
theorem aG.any {κ:Type} {env:List Val} {f:SV→Bool} {g:V→Bool} (hf:∀ x v,ah env x v→f x=false→g v=false):∀ {xs:List (κ×SV)} {vs:List (κ×V)},aG env xs vs→xs.any (fun y=>f y.2)=false→vs.any (fun y=>g y.2)=false
 | [],vs,h,_=>by simp only [aG] at h;subst h;rfl
 | (k,y)::xs,vs,h,ha=>by
  simp only [aG] at h
  obtain ⟨u,vs',h1,h2,h3⟩:=h
  subst h1
  simp only [List.any_cons,Bool.or_eq_false_iff] at ha ⊢
  exact ⟨hf _ _ h2 ha.1,h3.any hf ha.2⟩
structure SFr where
 rd:Option Name
 n:Nat
 ts:List (Nat×SV)
structure Sy where
 g:List Ty
 rd:Option Name
 n:Nat
 ts:List (Nat×SV)
 sv:List SFr
 bx:List (Name×SV)
 lp:List (Name×Lp)
 ow:List Name
 vc:List (Name×Ty×E)
def fB (env:List Val):List (Name×Ty×E)→List (Name×Nat×List D)→Prop
 | [],l=>l=[]
 | (n,t,x)::r,l=>∃ (a:List t.den) (l' : List (Name×Nat×List D)),l=(n,t.size,a.map (bD t))::l' ∧ x.val env=some ⟨.sl t,a⟩∧fB env r l'
theorem fB.app {env:List Val} (l:List Val):∀ {xs:List (Name×Ty×E)} {vs:List (Name×Nat×List D)},fB env xs vs→fB (env++l) xs vs
 | [],vs,h=>h
 | (n,t,x)::xs,vs,h=>by obtain ⟨a,l',h1,h2,h3⟩:=h;exact ⟨a,l',h1,E.dh l h2,h3.app l⟩
theorem fB.look {env:List Val} {n:Name}:∀ {xs:List (Name×Ty×E)} {vs:List (Name×Nat×List D)},fB env xs vs→(∀ {t x},aj n xs=some (t,x)→∃ a:List t.den,x.val env=some ⟨.sl t,a⟩∧aj n vs=some (t.size,a.map (bD t)))∧(aj n xs=none→aj n vs=none)
 | [],vs,h=>by simp only [fB] at h;subst h;simp [aj]
 | (k,t,x)::xs,vs,h=>by
  obtain ⟨a,l',rfl,h2,h3⟩:=h
  simp only [aj]
  split
  ·exact ⟨fun e=>by cases e;exact ⟨a,h2,rfl⟩,fun e=>by cases e⟩
  ·exact h3.look
theorem fB.set {env:List Val} {n:Name} {t:Ty} {x:E} {a:List t.den} (hv:x.val env=some ⟨.sl t,a⟩):∀ {xs:List (Name×Ty×E)} {vs:List (Name×Nat×List D)},fB env xs vs→fB env (Ab.cO n (t,x) xs) (Ab.cO n (t.size,a.map (bD t)) vs)
 | [],vs,h=>by simp only [fB] at h;subst h;simp [Ab.cO,fB]
 | (k,u,y)::xs,vs,h=>by
  obtain ⟨b,l',rfl,h2,h3⟩:=h
  simp only [Ab.cO]
  split
  ·exact ⟨a,l',rfl,hv,h3⟩
  ·exact ⟨b,_,rfl,h2,h3.set hv⟩
theorem fB.filter {env:List Val} {q:Name→Bool}:∀ {xs:List (Name×Ty×E)} {vs:List (Name×Nat×List D)},fB env xs vs→fB env (xs.filter fun x=>q x.1) (vs.filter fun x=>q x.1)
 | [],vs,h=>by simp only [fB] at h;subst h;simp [fB]
 | (k,t,x)::xs,vs,h=>by
  obtain ⟨a,l',rfl,h2,h3⟩:=h
  simp only [List.filter_cons]
  split
  ·exact ⟨a,_,rfl,h2,h3.filter⟩
  ·exact h3.filter
def eY (env:List Val):List SFr→List Fr→Prop
 | [],l=>l=[]
 | f::fs,l=>∃ g l',l=g::l' ∧ g.rd=f.rd∧g.n=f.n∧aG env f.ts g.ts∧eY env fs l'
structure Inst (env:List Val) (y:Sy) (s:Sa):Prop where
 g:env.map (·.1)=y.g
 rd:s.rd=y.rd
 n:s.n=y.n
 ts:aG env y.ts s.ts
 sv:eY env y.sv s.sv
 bx:aG env y.bx s.bx
 lp:s.lp=y.lp
 ow:s.ow=y.ow
 vc:fB env y.vc s.vc
theorem eY.app {env:List Val} (l:List Val):∀ {xs:List SFr} {vs:List Fr},eY env xs vs→eY (env++l) xs vs
 | [],vs,h=>h
 | f::xs,vs,h=>by simp only [eY] at h ⊢; obtain ⟨v,vs',h1,h2,h3,h4,h5⟩:=h;exact ⟨v,vs',h1,h2,h3,h4.app l,h5.app l⟩
theorem eY.len {env:List Val}:∀ {xs:List SFr} {vs:List Fr},eY env xs vs→vs.length=xs.length
 | [],vs,h=>by simp only [eY] at h;simp [h]
 | f::xs,vs,h=>by simp only [eY] at h;obtain ⟨v,vs',h1,h2,h3,h4,h5⟩:=h;simp [h1,h5.len]
def Sy.more (y:Sy) (ts:List Ty):Sy:={ y with g:=y.g++ts }
theorem Inst.app {env:List Val} {y:Sy} {s:Sa} (h:Inst env y s) (l:List Val):Inst (env++l) (y.more (l.map (·.1))) s :=
 ⟨by simp [Sy.more,h.g],h.rd,h.n,h.ts.app l,h.sv.app l,h.bx.app l,h.lp,h.ow,h.vc.app l⟩
theorem Inst.snoc {env:List Val} {y:Sy} {s:Sa} (h:Inst env y s) (v:Val):Inst (env++[v]) (y.more [v.1]) s:=h.app [v]
theorem Inst.len {env:List Val} {y:Sy} {s:Sa} (h:Inst env y s):env.length=y.g.length:=by rw [← h.g,List.length_map]
end Go.Tx
namespace Go.Tx
open Go Go.Ab
def OV (v:Value):Option SV :=
 match v with
 | .slice none 0 0=>some .nil
 | .agg cs=>if cs.all (fun c=>scalar c || (match c with | .slice none 0 0=>true | _=>false)) then some (.kd cs.toList) else none
 | .bool b=>some (.e .bool (.bool b))
 | .int k n=>if inR k n then some (.e (.int k) (.int k n)) else none
 | .string s=>if s.size≤9223372036854775807 then some (.e .str (.str s)) else none
 | .nilFunc=>some (.e (.cst .nilf) (.cst .nilf))
 | .pointer none=>some (.e (.cst .nilp) (.cst .nilp))
 | .map none=>some (.e (.cst .nilm) (.cst .nilm))
 | .nilIface=>some (.e (.cst .nili) (.cst .nili))
 | .func (.func g) a b=>if a.isEmpty&&b.isEmpty then some (.e (.cst (.fnc g)) (.cst (.fnc g))) else none
 | _=>none
theorem OW {env:List Val} {v:Value} {x:SV} (h:OV v=some x):ah env x (eH v):=by
 unfold OV at h
 split at h
 ·cases h;simp [ah,eH]
 ·split at h
  ·rename_i hc;cases h;simp only [ah,eH];exact if_pos hc
  ·cases h
 ·cases h;simp [ah,eH,scalar,E.val,bD,jw,Ty.ag,enc]
 ·split at h
  ·rename_i hc;cases h;simp [ah,eH,scalar,E.val,bD,jw,Ty.ag,enc,hc]
  ·cases h
 ·split at h
  ·rename_i hc;cases h;simp [ah,eH,scalar,E.val,bD,jw,Ty.ag,enc,hc]
  ·cases h
 ·cases h;simp [ah,eH,scalar,E.val,bD,jw,Ty.ag,enc,Cst.val]
 ·cases h;simp [ah,eH,scalar,E.val,bD,jw,Ty.ag,enc,Cst.val]
 ·cases h;simp [ah,eH,scalar,E.val,bD,jw,Ty.ag,enc,Cst.val]
 ·cases h;simp [ah,eH,scalar,E.val,bD,jw,Ty.ag,enc,Cst.val]
 ·split at h
  ·rename_i hc
   cases h
   simp only [Bool.and_eq_true,Array.isEmpty_iff] at hc
   obtain ⟨rfl,rfl⟩:=hc
   simp [ah,eH,scalar,E.val,bD,jw,Ty.ag,enc,Cst.val]
  ·cases h
 ·cases h
def Sy.get (y:Sy):Operand→Option SV
 | .tmp t=>some (lkS t y.ts)
 | .const v=>OV v
 | .global _=>none
 | .func g=>some (.e (.cst (.fnc g)) (.cst (.fnc g)))
theorem Inst.get {env:List Val} {y:Sy} {s:Sa} (h:Inst env y s) {o:Operand} {x:SV} (hx:y.get o=some x):ah env x (s.get o):=by
 cases o with
 | tmp t=>cases hx;exact h.ts.lk
 | const v=>exact OW hx
 | global g=>cases hx
 | func g=>cases hx;simp [ah,Sa.get,E.val,bD,jw,Ty.ag,enc,Cst.val]
def Sy.put (y:Sy):Option Tmp→SV→Sy
 | none,_=>y
 | some d,v=>{ y with ts:=OU d v y.ts }
theorem Inst.put {env:List Val} {y:Sy} {s:Sa} (h:Inst env y s) (d:Option Tmp) {x:SV} {v:V} (hv:ah env x v):Inst env (y.put d x) (s.put d v):=by
 cases d with
 | none=>exact h
 | some d=>exact ⟨h.g,h.rd,h.n,h.ts.set hv,h.sv,h.bx,h.lp,h.ow,h.vc⟩
mutual
def SV.strip (i:Name):SV→SV
 | .vsl n=>if n=i then .dead else .vsl n
 | .vpt n t x inn=>if n=i then .dead else .vpt n t x inn
 | .own j sz t x=>if j=i then .e (.sl t) x else .own j sz t x
 | .fn f c=>.fn f (SV.stripL i c)
 | .agg c=>.agg (SV.stripL i c)
 | .mix t x os zs=>.mix t x os (SV.stripL i zs)
 | .tup c=>.tup (SV.stripL i c)
 | .gd gs x=>.gd gs (SV.strip i x)
 | x=>x
def SV.stripL (i:Name):List SV→List SV
 | []=>[]
 | v::vs=>SV.strip i v::SV.stripL i vs
end
theorem Hz {env:List Val} {i:Name} {x:SV} (h:typed env x):typed env (SV.strip i x):=by
 cases x <;> simp only [SV.strip] <;> try exact h
 ·split
  ·simp only [typed] at h ⊢; exact h
  ·exact h
 ·split <;> simp [typed]
 ·split <;> simp [typed]
theorem OX (t:Ty) (a:List t.den):bD (.sl t) a = .sl (a.map (bD t)):=rfl
mutual
theorem ah.strip {env:List Val} (i:Name):∀ {x:SV} {v:V},ah env x v→ah env (x.strip i) (v.strip i)
 | .e t x,v,h=>by simp only [ah,SV.strip] at h ⊢; obtain ⟨a,h1,rfl⟩:=h;exact ⟨a,h1,rfl⟩
 | .nil,v,h=>by simp only [ah] at h;subst h;simp [SV.strip,V.strip,ah]
 | .own j sz t x,v,h=>by
  simp only [ah] at h
  obtain ⟨a,h1,h2,rfl⟩:=h
  simp only [SV.strip,V.strip]
  split
  ·simp only [ah];exact ⟨a,h1,rfl⟩
  ·simp only [ah];exact ⟨a,h1,h2,rfl⟩
 | .ptr n off,v,h=>by simp only [ah] at h;subst h;simp [SV.strip,V.strip,ah]
 | .aptr n off m t e inn,v,h=>by simp only [ah,SV.strip] at h ⊢; obtain ⟨k,j,h1,h2,h3,rfl⟩:=h;exact ⟨k,j,h1,h2,h3,rfl⟩
 | .ref t x off,v,h=>by simp only [ah,SV.strip] at h ⊢; obtain ⟨a,cs,h1,rfl,h2⟩:=h;exact ⟨a,cs,h1,rfl,h2⟩
 | .fn f cap,v,h=>by simp only [ah,SV.strip] at h ⊢; obtain ⟨c,rfl,h2⟩:=h;exact ⟨_,rfl,aB.strip i h2⟩
 | .yld l,v,h=>by simp only [ah] at h;subst h;simp [SV.strip,V.strip,ah]
 | .mref n,v,h=>by simp only [ah] at h;subst h;simp [SV.strip,V.strip,ah]
 | .mpc k t x,v,h=>by simp only [ah,SV.strip] at h ⊢; obtain ⟨a,kvs,h1,rfl,h2⟩:=h;exact ⟨a,kvs,h1,rfl,h2⟩
 | .agg cs,v,h=>by simp only [ah,SV.strip] at h ⊢; obtain ⟨c,rfl,h2⟩:=h;exact ⟨_,rfl,aB.strip i h2⟩
 | .mix t x os zs,v,h=>by
  simp only [ah,SV.strip] at h ⊢
  obtain ⟨a,c,h1,rfl,h3,h4,h5⟩:=h
  refine ⟨a,V.stripL i c,h1,rfl,by rw [V.pF,List.length_map];exact h3,aV.strip i h4,fun j hj hn=>?_⟩
  rw [V.pF,List.getElem?_map,h5 j hj hn]
  cases (enc t a)[j]? <;> rfl
 | .tup cs,v,h=>by simp only [ah,SV.strip] at h ⊢; obtain ⟨c,rfl,h2⟩:=h;exact ⟨_,rfl,aB.strip i h2⟩
 | .kd cs,v,h=>by simp only [ah] at h;subst h;simp [SV.strip,V.strip,ah]
 | .gd gs x,v,h=>by
  simp only [ah,SV.strip] at h ⊢
  obtain ⟨b,h1,h0,h2,h3⟩:=h
  refine ⟨b,h1,Hz h0,fun e=>ah.strip i (h2 e),fun e=>?_⟩
  rw [h3 e];rfl
 | .vsl n,v,h=>by
  simp only [ah] at h;subst h
  simp only [SV.strip,V.strip]
  split <;> simp [ah]
 | .vpt n t x inn,v,h=>by
  simp only [ah] at h
  obtain ⟨k,j,h1,h2,rfl⟩:=h
  simp only [SV.strip,V.strip]
  split
  ·simp [ah]
  ·simp only [ah];exact ⟨k,j,h1,h2,rfl⟩
 | .dead,v,h=>by simp only [ah] at h;subst h;simp [SV.strip,V.strip,ah]
theorem aB.strip {env:List Val} (i:Name):∀ {xs:List SV} {vs:List V},aB env xs vs→aB env (SV.stripL i xs) (V.stripL i vs)
 | [],vs,h=>by simp only [aB] at h;subst h;simp [SV.stripL,V.stripL,aB]
 | x::xs,vs,h=>by
  simp only [aB] at h
  obtain ⟨v,vs',rfl,h2,h3⟩:=h
  simp only [SV.stripL,V.stripL,aB]
  exact ⟨_,_,rfl,ah.strip i h2,aB.strip i h3⟩
theorem aV.strip {env:List Val} (i:Name):∀ {zs:List SV} {os:List Nat} {c:List V},aV env os zs c→aV env os (SV.stripL i zs) (V.stripL i c)
 | [],os,c,h=>h
 | z::zs,os,c,h=>by
  simp only [aV,SV.stripL] at h ⊢
  obtain ⟨j,os',h1,⟨v,h2,h3⟩,h4⟩:=h
  exact ⟨j,os',h1,⟨v.strip i,by rw [V.pF,List.getElem?_map,h2];rfl,ah.strip i h3⟩,aV.strip i h4⟩
end
mutual
def SV.refs (n:Name):SV→Bool
 | .ptr m _=>m==n
 | .aptr m _ _ _ _ _=>m==n
 | .mref m=>m==n
 | .fn _ c=>SV.lI n c
 | .agg c=>SV.lI n c
 | .mix _ _ _ zs=>SV.lI n zs
 | .tup c=>SV.lI n c
 | .gd _ x=>SV.refs n x
 | _=>false
def SV.lI (n:Name):List SV→Bool
 | []=>false
 | v::vs=>SV.refs n v || SV.lI n vs
end
theorem V.EX {n:Name}:∀ {vs:List V},(∀ v∈vs,v.refs n=false)→V.lI n vs=false
 | [],_=>rfl
 | v::vs,h=>by simp only [V.lI,h v List.mem_cons_self,Bool.false_or];exact V.EX fun u hu=>h u (List.mem_cons_of_mem _ hu)
mutual
theorem ah.refs {env:List Val} (n:Name):∀ {x:SV} {v:V},ah env x v→x.refs n=false→v.refs n=false
 | .e t x,v,h,_=>by simp only [ah] at h;obtain ⟨a,h1,rfl⟩:=h;rfl
 | .nil,v,h,_=>by simp only [ah] at h;subst h;rfl
 | .own j sz t x,v,h,_=>by simp only [ah] at h;obtain ⟨a,h1,h2,rfl⟩:=h;rfl
 | .ptr m off,v,h,hr=>by simp only [ah] at h;subst h;exact hr
 | .aptr m off _ t e inn,v,h,hr=>by simp only [ah] at h;obtain ⟨k,j,h1,h2,h3,rfl⟩:=h;exact hr
 | .ref t x off,v,h,_=>by simp only [ah] at h;obtain ⟨a,cs,h1,rfl,h2⟩:=h;rfl
 | .fn f cap,v,h,hr=>by simp only [ah] at h;obtain ⟨c,rfl,h2⟩:=h;exact aB.refs n h2 hr
 | .yld l,v,h,_=>by simp only [ah] at h;subst h;rfl
 | .mref m,v,h,hr=>by simp only [ah] at h;subst h;exact hr
 | .mpc k t x,v,h,_=>by simp only [ah] at h;obtain ⟨a,kvs,h1,rfl,h2⟩:=h;rfl
 | .agg cs,v,h,hr=>by simp only [ah] at h;obtain ⟨c,rfl,h2⟩:=h;exact aB.refs n h2 hr
 | .mix t x os zs,v,h,hr=>by
  simp only [ah] at h
  obtain ⟨a,c,h1,rfl,h3,h4,h5⟩:=h
  refine V.EX (fun v hv=>?_)
  obtain ⟨j,hj,rfl⟩:=List.getElem_of_mem hv
  by_cases hjo:j∈os
  ·exact aV.refs n h4 hr j hjo _ (List.getElem?_eq_getElem hj)
  ·have:=h5 j (by omega) hjo
   rw [List.getElem?_eq_getElem hj] at this
   cases he:(enc t a)[j]? with
   | none=>rw [he] at this;cases this
   | some d =>
    rw [he] at this
    have e:c[j] = .d d:=by simpa using this
    rw [e];rfl
 | .tup cs,v,h,hr=>by simp only [ah] at h;obtain ⟨c,rfl,h2⟩:=h;exact aB.refs n h2 hr
 | .kd cs,v,h,_=>by simp only [ah] at h;subst h;rfl
 | .gd gs x,v,h,hr=>by
  simp only [ah] at h
  obtain ⟨b,h1,h0,h2,h3⟩:=h
  cases b with
  | true=>exact ah.refs n (h2 rfl) hr
  | false=>rw [h3 rfl];rfl
 | .vsl m,v,h,_=>by simp only [ah] at h;subst h;rfl
 | .vpt m t x inn,v,h,_=>by simp only [ah] at h;obtain ⟨k,j,h1,h2,rfl⟩:=h;rfl
 | .dead,v,h,_=>by simp only [ah] at h;subst h;rfl
theorem aB.refs {env:List Val} (n:Name):∀ {xs:List SV} {vs:List V},aB env xs vs→SV.lI n xs=false→V.lI n vs=false
 | [],vs,h,_=>by simp only [aB] at h;subst h;rfl
 | x::xs,vs,h,hr=>by
  simp only [aB] at h
  obtain ⟨v,vs',rfl,h2,h3⟩:=h
  simp only [SV.lI,V.lI,Bool.or_eq_false_iff] at hr ⊢
  exact ⟨ah.refs n h2 hr.1,aB.refs n h3 hr.2⟩
theorem aV.refs {env:List Val} (n:Name):∀ {zs:List SV} {os:List Nat} {c:List V},aV env os zs c→SV.lI n zs=false→∀ j∈os,∀ v,c[j]? = some v→v.refs n=false
 | [],os,c,h,_=>by simp only [aV] at h;subst h;simp
 | z::zs,os,c,h,hr=>by
  simp only [aV,SV.lI,Bool.or_eq_false_iff] at h hr
  obtain ⟨j,os',rfl,⟨v,h2,h3⟩,h4⟩:=h
  intro k hk u hu
  rcases List.mem_cons.1 hk with rfl | hk
  ·rw [h2] at hu;cases hu;exact ah.refs n h3 hr.1
  ·exact aV.refs n h4 hr.2 k hk u hu
end
mutual
def SV.jC (n:Name):SV→Bool
 | .yld m=>m==n
 | .fn _ c=>SV.jv n c
 | .agg c=>SV.jv n c
 | .mix _ _ _ zs=>SV.jv n zs
 | .tup c=>SV.jv n c
 | .gd _ x=>SV.jC n x
 | _=>false
def SV.jv (n:Name):List SV→Bool
 | []=>false
 | v::vs=>SV.jC n v || SV.jv n vs
end
theorem V.EY {n:Name}:∀ {vs:List V},(∀ v∈vs,v.jC n=false)→V.jv n vs=false
 | [],_=>rfl
 | v::vs,h=>by simp only [V.jv,h v List.mem_cons_self,Bool.false_or];exact V.EY fun u hu=>h u (List.mem_cons_of_mem _ hu)
mutual
theorem ah.jC {env:List Val} (n:Name):∀ {x:SV} {v:V},ah env x v→x.jC n=false→v.jC n=false
 | .e t x,v,h,_=>by simp only [ah] at h;obtain ⟨a,h1,rfl⟩:=h;rfl
 | .nil,v,h,_=>by simp only [ah] at h;subst h;rfl
 | .own j sz t x,v,h,_=>by simp only [ah] at h;obtain ⟨a,h1,h2,rfl⟩:=h;rfl
 | .ptr m off,v,h,hr=>by simp only [ah] at h;subst h;rfl
 | .aptr m off _ t e inn,v,h,hr=>by simp only [ah] at h;obtain ⟨k,j,h1,h2,h3,rfl⟩:=h;rfl
 | .ref t x off,v,h,_=>by simp only [ah] at h;obtain ⟨a,cs,h1,rfl,h2⟩:=h;rfl
 | .fn f cap,v,h,hr=>by simp only [ah] at h;obtain ⟨c,rfl,h2⟩:=h;exact aB.jC n h2 hr
 | .yld l,v,h,hr=>by simp only [ah] at h;subst h;exact hr
 | .mref m,v,h,hr=>by simp only [ah] at h;subst h;rfl
 | .mpc k t x,v,h,_=>by simp only [ah] at h;obtain ⟨a,kvs,h1,rfl,h2⟩:=h;rfl
 | .agg cs,v,h,hr=>by simp only [ah] at h;obtain ⟨c,rfl,h2⟩:=h;exact aB.jC n h2 hr
 | .mix t x os zs,v,h,hr=>by
  simp only [ah] at h
  obtain ⟨a,c,h1,rfl,h3,h4,h5⟩:=h
  refine V.EY (fun v hv=>?_)
  obtain ⟨j,hj,rfl⟩:=List.getElem_of_mem hv
  by_cases hjo:j∈os
  ·exact aV.jC n h4 hr j hjo _ (List.getElem?_eq_getElem hj)
  ·have:=h5 j (by omega) hjo
   rw [List.getElem?_eq_getElem hj] at this
   cases he:(enc t a)[j]? with
   | none=>rw [he] at this;cases this
   | some d =>
    rw [he] at this
    have e:c[j] = .d d:=by simpa using this
    rw [e];rfl
 | .tup cs,v,h,hr=>by simp only [ah] at h;obtain ⟨c,rfl,h2⟩:=h;exact aB.jC n h2 hr
 | .kd cs,v,h,_=>by simp only [ah] at h;subst h;rfl
 | .gd gs x,v,h,hr=>by
  simp only [ah] at h
  obtain ⟨b,h1,h0,h2,h3⟩:=h
  cases b with
  | true=>exact ah.jC n (h2 rfl) hr
  | false=>rw [h3 rfl];rfl
 | .vsl m,v,h,_=>by simp only [ah] at h;subst h;rfl
 | .vpt m t x inn,v,h,_=>by simp only [ah] at h;obtain ⟨k,j,h1,h2,rfl⟩:=h;rfl
 | .dead,v,h,_=>by simp only [ah] at h;subst h;rfl
theorem aB.jC {env:List Val} (n:Name):∀ {xs:List SV} {vs:List V},aB env xs vs→SV.jv n xs=false→V.jv n vs=false
 | [],vs,h,_=>by simp only [aB] at h;subst h;rfl
 | x::xs,vs,h,hr=>by
  simp only [aB] at h
  obtain ⟨v,vs',rfl,h2,h3⟩:=h
  simp only [SV.jv,V.jv,Bool.or_eq_false_iff] at hr ⊢
  exact ⟨ah.jC n h2 hr.1,aB.jC n h3 hr.2⟩
theorem aV.jC {env:List Val} (n:Name):∀ {zs:List SV} {os:List Nat} {c:List V},aV env os zs c→SV.jv n zs=false→∀ j∈os,∀ v,c[j]? = some v→v.jC n=false
 | [],os,c,h,_=>by simp only [aV] at h;subst h;simp
 | z::zs,os,c,h,hr=>by
  simp only [aV,SV.jv,Bool.or_eq_false_iff] at h hr
  obtain ⟨j,os',rfl,⟨v,h2,h3⟩,h4⟩:=h
  intro k hk u hu
  rcases List.mem_cons.1 hk with rfl | hk
  ·rw [h2] at hu;cases hu;exact ah.jC n h3 hr.1
  ·exact aV.jC n h4 hr.2 k hk u hu
end
theorem eY.map {env:List Val} {f:SV→SV} {g:V→V} (hf:∀ x v,ah env x v→ah env (f x) (g v)):∀ {xs:List SFr} {vs:List Fr},eY env xs vs→eY env (xs.map fun (y:SFr)=>{ y with ts:=y.ts.map fun z=>(z.1,f z.2) }) (vs.map fun (y:Fr)=>{ y with ts:=Ef g y.ts })
 | [],vs,h=>by simp only [eY] at h;subst h;simp [eY]
 | a::xs,vs,h=>by
  simp only [eY] at h
  obtain ⟨u,vs',rfl,h1,h2,h3,h4⟩:=h
  simp only [List.map_cons,eY]
  exact ⟨_,_,rfl,h1,h2,h3.map hf,h4.map hf⟩
theorem eY.any {env:List Val} {f:SV→Bool} {g:V→Bool} (hf:∀ x v,ah env x v→f x=false→g v=false):∀ {xs:List SFr} {vs:List Fr},eY env xs vs→xs.any (fun (y:SFr)=>y.ts.any fun z=>f z.2)=false→vs.any (fun (y:Fr)=>y.ts.any fun z=>g z.2)=false
 | [],vs,h,_=>by simp only [eY] at h;subst h;rfl
 | a::xs,vs,h,ha=>by
  simp only [eY] at h
  obtain ⟨u,vs',rfl,h1,h2,h3,h4⟩:=h
  simp only [List.any_cons,Bool.or_eq_false_iff] at ha ⊢
  exact ⟨h3.any hf ha.1,h4.any hf ha.2⟩
def Sy.strip (y:Sy) (i:Name):Sy :=
 { y with ts:=y.ts.map fun z=>(z.1,z.2.strip i),sv:=y.sv.map (fun (f:SFr)=>{ f with ts:=f.ts.map fun z=>(z.1,z.2.strip i) }),bx:=y.bx.map (fun x=>(x.1,x.2.strip i)),ow:=y.ow.filter (fun j=>j != i),vc:=y.vc.filter (fun x=>x.1 != i) }
theorem Inst.strip {env:List Val} {y:Sy} {s:Sa} (h:Inst env y s) (i:Name):Inst env (y.strip i) (s.strip i) :=
 ⟨h.g,h.rd,h.n,h.ts.map (fun _ _ h=>h.strip i),h.sv.map (fun _ _ h=>h.strip i),h.bx.map (fun _ _ h=>h.strip i),h.lp,by simp [Sy.strip,Sa.strip,h.ow],h.vc.filter (q:=fun j=>j != i)⟩
def Sy.refs (y:Sy) (n:Name):Bool :=
 y.ts.any (fun x=>x.2.refs n) || y.sv.any (fun f=>f.ts.any (fun x=>x.2.refs n)) || y.bx.any (fun x=>x.2.refs n)
theorem Inst.refs {env:List Val} {y:Sy} {s:Sa} (h:Inst env y s) {n:Name} (hr:y.refs n=false):s.refs n=false:=by
 simp only [Sy.refs,Bool.or_eq_false_iff] at hr
 simp only [Sa.refs,Bool.or_eq_false_iff]
 exact ⟨⟨h.ts.any (fun _ _ h=>h.refs n) hr.1.1,h.sv.any (fun _ _ h=>h.refs n) hr.1.2⟩,h.bx.any (fun _ _ h=>h.refs n) hr.2⟩
def Sy.jC (y:Sy) (n:Name):Bool :=
 y.ts.any (fun x=>x.2.jC n) || y.sv.any (fun f=>f.ts.any (fun x=>x.2.jC n)) || y.bx.any (fun x=>x.2.jC n)
theorem Inst.jC {env:List Val} {y:Sy} {s:Sa} (h:Inst env y s) {n:Name} (hr:y.jC n=false):s.jC n=false:=by
 simp only [Sy.jC,Bool.or_eq_false_iff] at hr
 simp only [Sa.jC,Bool.or_eq_false_iff]
 exact ⟨⟨h.ts.any (fun _ _ h=>h.jC n) hr.1.1,h.sv.any (fun _ _ h=>h.jC n) hr.1.2⟩,h.bx.any (fun _ _ h=>h.jC n) hr.2⟩
def Sy.claim (y:Sy) (i:Name) (sz:Option Nat) (et:Option Ty) (x:SV):Option (SV×Sy) :=
 match x with
 | .nil=>match sz with
  | some z=>match et with
   | some t=>if t.size=z then some (.own i z t (.zero (.sl t)),{ y.strip i with ow:=i::(y.strip i).ow }) else none
   | none=>none
  | none=>some (.nil,y)
 | .gd _ _=>none
 | x=>some (x,y)
theorem Inst.claim {env:List Val} {y y' : Sy} {s:Sa} (h:Inst env y s) {i:Name} {sz:Option Nat} {et:Option Ty} {x x' : SV} {v:V} (hv:ah env x v) (hc:y.claim i sz et x=some (x',y')) :
  ah env x' (s.claim i sz v).1∧Inst env y' (s.claim i sz v).2:=by
 have same:∀ (hn:v ≠ .nil),(s.claim i sz v)=(v,s):=fun hn=>by
  unfold Sa.claim;split
  ·exact absurd rfl hn
  ·rfl
 cases x with
 | nil =>
  simp only [ah] at hv
  subst hv
  simp only [Sy.claim] at hc
  split at hc
  ·rename_i z
   split at hc
   ·rename_i t
    split at hc
    ·rename_i hz
     cases hc
     refine ⟨?_,?_⟩
     ·simp only [ah,Sa.claim]
      exact ⟨[],rfl,hz,rfl⟩
     ·have:=h.strip i
      exact ⟨this.g,this.rd,this.n,this.ts,this.sv,this.bx,this.lp,by simp [Sa.claim,this.ow],this.vc⟩
    ·cases hc
   ·cases hc
  ·cases hc
   exact ⟨by simp [Sa.claim,ah],by simpa [Sa.claim] using h⟩
 | gd gs x=>simp [Sy.claim] at hc
 | e t x=>cases hc;have hv':=hv;simp only [ah] at hv;obtain ⟨a,_,rfl⟩:=hv;rw [same (by simp)];exact ⟨hv',h⟩
 | own j z t x=>cases hc;have hv':=hv;simp only [ah] at hv;obtain ⟨a,_,_,rfl⟩:=hv;rw [same (by simp)];exact ⟨hv',h⟩
 | ptr n off=>cases hc;have hv':=hv;simp only [ah] at hv;subst hv;rw [same (by simp)];exact ⟨hv',h⟩
 | aptr n off m t e inn=>cases hc;have hv':=hv;simp only [ah] at hv;obtain ⟨_,_,_,_,_,rfl⟩:=hv;rw [same (by simp)];exact ⟨hv',h⟩
 | ref t x off=>cases hc;have hv':=hv;simp only [ah] at hv;obtain ⟨_,_,_,rfl,_⟩:=hv;rw [same (by simp)];exact ⟨hv',h⟩
 | fn f c=>cases hc;have hv':=hv;simp only [ah] at hv;obtain ⟨_,rfl,_⟩:=hv;rw [same (by simp)];exact ⟨hv',h⟩
 | yld l=>cases hc;have hv':=hv;simp only [ah] at hv;subst hv;rw [same (by simp)];exact ⟨hv',h⟩
 | mref n=>cases hc;have hv':=hv;simp only [ah] at hv;subst hv;rw [same (by simp)];exact ⟨hv',h⟩
 | mpc k t x=>cases hc;have hv':=hv;simp only [ah] at hv;obtain ⟨_,_,_,rfl,_⟩:=hv;rw [same (by simp)];exact ⟨hv',h⟩
 | mix t x os zs=>cases hc;have hv':=hv;simp only [ah] at hv;obtain ⟨_,_,_,rfl,_⟩:=hv;rw [same (by simp)];exact ⟨hv',h⟩
 | agg c=>cases hc;have hv':=hv;simp only [ah] at hv;obtain ⟨_,rfl,_⟩:=hv;rw [same (by simp)];exact ⟨hv',h⟩
 | tup c=>cases hc;have hv':=hv;simp only [ah] at hv;obtain ⟨_,rfl,_⟩:=hv;rw [same (by simp)];exact ⟨hv',h⟩
 | kd cs=>cases hc;have hv':=hv;simp only [ah] at hv;subst hv;rw [same (by simp)];exact ⟨hv',h⟩
 | vsl n=>cases hc;have hv':=hv;simp only [ah] at hv;subst hv;rw [same (by simp)];exact ⟨hv',h⟩
 | vpt n t e inn=>cases hc;have hv':=hv;simp only [ah] at hv;obtain ⟨_,_,_,_,rfl⟩:=hv;rw [same (by simp)];exact ⟨hv',h⟩
 | dead=>cases hc;have hv':=hv;simp only [ah] at hv;subst hv;rw [same (by simp)];exact ⟨hv',h⟩
def abG (F:TypeId→Option Ty):List Field→Option Ty
 | []=>some .unit
 | f::fs=>match F f.type,abG F fs with
  | some a,some b=>some (.prod a b)
  | _,_=>none
def aaK (P:Program):Nat→TypeId→Option Ty
 | 0,_=>none
 | d+1,t=>match P.underlying t with
  | some .bool=>some .bool
  | some (.int k)=>some (.int k)
  | some .string=>some .str
  | some (.slice e)=>(aaK P d e).map .sl
  | some (.array n e)=>(aaK P d e).map (.arr n)
  | some (.struct fs)=>(abG (aaK P d) fs.toList).map .st
  | some (.func _ _ _)=>some (.cst .nilf)
  | some (.pointer _)=>some (.cst .nilp)
  | some (.map _ _)=>some (.cst .nilm)
  | some (.interface _)=>some (.cst .nili)
  | _=>none
def tyD (P:Program) (t:TypeId):Option Ty:=aaK P 12 t
def aaL (F:List D→Option (List D)):Nat→List D→Option (List D)
 | 0,l=>some l
 | n+1,l=>match F l with | some l=>aaL F n l | none=>none
def oI:Ty→List D→Option (List D)
 | .int k,.v (.int q n)::l=>if k=q∧n=0 then some l else none
 | .bool,.v (.bool false)::l=>some l
 | .str,.v (.string s)::l=>if s=ByteArray.empty then some l else none
 | .cst .nilf,.v .nilFunc::l=>some l
 | .cst .nilp,.v (.pointer none)::l=>some l
 | .cst .nilm,.v (.map none)::l=>some l
 | .cst .nili,.v .nilIface::l=>some l
 | .unit,l=>some l
 | .prod a b,l=>match oI a l with | some l=>oI b l | none=>none
 | .st a,l=>oI a l
 | .arr n t,l=>aaL (oI t) n l
 | .sl _,.sl []::l=>some l
 | _,_=>none
theorem OY {F:List D→Option (List D)} {cs:List D} (h:∀ l r,F l=some r→l=cs++r):∀ {n:Nat} {l r:List D},aaL F n l=some r→l=(List.replicate n cs).flatten++r
 | 0,l,r,e=>by cases e;simp
 | n+1,l,r,e=>by
  simp only [aaL] at e
  split at e
  ·rename_i l' h1
   rw [h _ _ h1,OY h e];simp [List.replicate_succ]
  ·cases e
theorem HY:∀ (t:Ty) (l r:List D),oI t l=some r→l=enc t t.zero++r:=by
 intro t
 induction t with
 | prod a b iha ihb =>
  intro l r h
  simp only [oI] at h
  split at h
  ·rename_i l' h1
   rw [iha _ _ h1,ihb _ _ h];simp [enc,Ty.zero]
  ·cases h
 | st a ih=>intro l r h;exact ih l r h
 | unit=>intro l r h;simp only [oI] at h;cases h;rfl
 | arr n t ih =>
  intro l r h
  rw [OY ih h]
  congr 1
  simp only [enc,Ty.zero,List.flatMap_def,List.map_const',List.length_finRange]
 | int k =>
  intro l r h
  rcases l with _ | ⟨d,l⟩
  ·simp [oI] at h
  ·rcases d with c | _ | _
   ·cases c <;> simp only [oI,reduceCtorEq] at h
    split at h
    ·rename_i hc;obtain ⟨rfl,rfl⟩:=hc;cases h;rfl
    ·cases h
   ·simp [oI] at h
   ·simp [oI] at h
 | bool =>
  intro l r h
  rcases l with _ | ⟨d,l⟩
  ·simp [oI] at h
  ·rcases d with c | _ | _
   ·cases c <;> (try simp only [oI,reduceCtorEq] at h)
    rename_i b
    cases b <;> simp only [oI,reduceCtorEq] at h
    cases h;rfl
   ·simp [oI] at h
   ·simp [oI] at h
 | str =>
  intro l r h
  rcases l with _ | ⟨d,l⟩
  ·simp [oI] at h
  ·rcases d with c | _ | _
   ·cases c <;> simp only [oI,reduceCtorEq] at h
    split at h
    ·rename_i hc;subst hc;cases h;rfl
    ·cases h
   ·simp [oI] at h
   ·simp [oI] at h
 | cst c =>
  intro l r h
  rcases l with _ | ⟨d,l⟩
  ·cases c <;> simp [oI] at h
  ·rcases d with v | _ | _
   ·cases c <;> cases v <;> (try simp only [oI,reduceCtorEq] at h)
    ·cases h;rfl
    ·rename_i p;cases p <;> simp only [oI,reduceCtorEq] at h
     cases h;rfl
    ·rename_i p;cases p <;> simp only [oI,reduceCtorEq] at h
     cases h;rfl
    ·cases h;rfl
   ·cases c <;> simp [oI] at h
   ·cases c <;> simp [oI] at h
 | sl t =>
  intro l r h
  rcases l with _ | ⟨d,l⟩
  ·simp [oI] at h
  ·rcases d with v | _ | xs
   ·simp [oI] at h
   ·simp [oI] at h
   ·cases xs <;> simp only [oI,reduceCtorEq] at h
    cases h;rfl
 | mp k t=>intro l r h;simp [oI] at h
end Go.Tx
namespace Go.Tx
open Go Go.Ab
def iP (CS:Calls'):List (B×Ty)→List Val→(List Val→Prop)→Prop
 | [],env,Q=>Q env
 | b::bs,env,Q=>∃ v:Val,v.1=b.2∧b.1.ok CS env v∧iP CS bs (env++[v]) Q
theorem qc {CS:Calls'}:∀ {as bs:List (B×Ty)} {env:List Val} {Q:List Val→Prop},iP CS (as++bs) env Q↔iP CS as env fun e=>iP CS bs e Q
 | [],_,_,_=>Iff.rfl
 | a::as,_,_,_=>by
  simp only [List.cons_append,iP]
  exact exists_congr fun v=>and_congr_right fun _=>and_congr_right fun _=>qc
theorem bJ {CS:Calls'}:∀ {bs:List (B×Ty)} {env:List Val} {Q Q' : List Val→Prop},(∀ e,Q e→Q' e)→iP CS bs env Q→iP CS bs env Q'
 | [],_,_,_,h,hq=>h _ hq
 | b::bs,_,_,_,h,hq=>by obtain ⟨v,h0,h1,h2⟩:=hq;exact ⟨v,h0,h1,bJ h h2⟩
def Vz (w:Option Ty):SV→Option (Ty×E)
 | .e t x=>some (t,x)
 | .own _ _ t x=>some (.sl t,x)
 | .nil=>match w with | some (.sl t)=>some (.sl t,.zero (.sl t)) | _=>none
 | _=>none
theorem H6 {env:List Val} {w:Option Ty} {y:SV} {v:V} {t:Ty} {x:E} (h:Vz w y=some (t,x)) (hv:ah env y v):∃ a,x.val env=some ⟨t,a⟩∧v.lu=some (bD t a):=by
 cases y <;> simp only [Vz,reduceCtorEq] at h
 case e u z=>cases h;simp only [ah] at hv;obtain ⟨a,h1,rfl⟩:=hv;exact ⟨a,h1,rfl⟩
 case own i sz u z=>cases h;simp only [ah] at hv;obtain ⟨a,h1,h2,rfl⟩:=hv;exact ⟨a,h1,rfl⟩
 case nil =>
  simp only [ah] at hv;subst hv
  split at h
  ·cases h;exact ⟨[],rfl,rfl⟩
  ·cases h
def chain:Ty→List SV→Option ((Ty×E)×List SV)
 | .unit,l=>some ((.unit,.zero .unit),l)
 | .prod a b,l=>match chain a l with
  | some ((t,x),l)=>match chain b l with
   | some ((u,y),l)=>some ((.prod t u,.p2 .pair x y),l)
   | none=>none
  | none=>none
 | .st a,l=>match chain a l with
  | some ((t,x),l)=>some ((.st t,.p1 .mk x),l)
  | none=>none
 | .arr _ _,_=>none
 | .mp _ _,_=>none
 | w,c::l=>match Vz (some w) c with
  | some (t,x)=>if t.ag=some false then some ((t,x),l) else none
  | none=>none
 | _,[]=>none
theorem oJ {f:V→Option D} {v:V} {vs:List V} {d:D} {ds:List D} (h1:f v=some d) (h2:eX f vs=some ds):eX f (v::vs)=some (d::ds):=by simp [eX,h1,h2]
theorem wB {f:V→Option D}:∀ {vs us:List V} {ds es:List D},eX f vs=some ds→eX f us=some es→eX f (vs++us)=some (ds++es)
 | [],us,ds,es,h1,h2=>by simp only [eX] at h1;cases h1;exact h2
 | v::vs,us,ds,es,h1,h2=>by
  simp only [eX] at h1
  split at h1
  ·rename_i x xs e1 e2
   cases h1
   exact oJ e1 (wB e2 h2)
  ·cases h1
theorem CJ {env:List Val}:∀ (w:Ty) (l l' : List SV) (vs:List V) (t:Ty) (x:E),chain w l=some ((t,x),l')→aB env l vs →
  ∃ a us vs',x.val env=some ⟨t,a⟩∧vs=us++vs' ∧ aB env l' vs' ∧ eX V.lu us=some (enc t a):=by
 have base:∀ (w:Ty) (l l' : List SV) (vs:List V) (t:Ty) (x:E),(match l with | c::l=>(match Vz (some w) c with | some (t,x)=>if t.ag=some false then some ((t,x),l) else none | none=>none) | []=>none)=some ((t,x),l')→aB env l vs →
   ∃ a us vs',x.val env=some ⟨t,a⟩∧vs=us++vs' ∧ aB env l' vs' ∧ eX V.lu us=some (enc t a):=by
  intro w l l' vs t x h hl
  cases l with
  | nil=>cases h
  | cons c l =>
   simp only at h
   split at h
   ·rename_i t' x' h1
    split at h
    ·rename_i ha
     cases h
     simp only [aB] at hl
     obtain ⟨v,vs',rfl,h2,h3⟩:=hl
     obtain ⟨a,h4,h5⟩:=H6 h1 h2
     obtain ⟨d,e1,e2⟩:=xG ha a
     refine ⟨a,[v],vs',h4,rfl,h3,?_⟩
     have:bD t a=d:=by simp [bD,jw,ha,e1]
     simp [eX,h5,this,e1]
    ·cases h
   ·cases h
 intro w
 induction w with
 | unit=>intro l l' vs t x h hl;cases h;exact ⟨(),[],vs,rfl,rfl,hl,rfl⟩
 | prod a b iha ihb =>
  intro l l' vs t x h hl
  simp only [chain] at h
  split at h
  ·rename_i t1 x1 l1 h1
   split at h
   ·rename_i t2 x2 l2 h2
    cases h
    obtain ⟨a1,us1,vs1,e1,rfl,e2,e3⟩:=iha _ _ _ _ _ h1 hl
    obtain ⟨a2,us2,vs2,g1,rfl,g2,g3⟩:=ihb _ _ _ _ _ h2 e2
    refine ⟨(a1,a2),us1++us2,vs2,?_,by simp,g2,?_⟩
    ·simp [E.val,Jw,e1,g1,lX]
    ·simpa [enc] using wB e3 g3
   ·cases h
  ·cases h
 | st a ih =>
  intro l l' vs t x h hl
  simp only [chain] at h
  split at h
  ·rename_i t1 x1 l1 h1
   cases h
   obtain ⟨a1,us1,vs1,e1,rfl,e2,e3⟩:=ih _ _ _ _ _ h1 hl
   refine ⟨a1,us1,vs1,?_,rfl,e2,e3⟩
   simp [E.val,app1,e1,jU]
  ·cases h
 | arr n t ih=>intro l l' vs t x h hl;simp [chain] at h
 | mp k t ih=>intro l l' vs t x h hl;simp [chain] at h
 | int k=>intro l l' vs t x h hl;exact base (.int k) l l' vs t x (by cases l <;> exact h) hl
 | bool=>intro l l' vs t x h hl;exact base .bool l l' vs t x (by cases l <;> exact h) hl
 | str=>intro l l' vs t x h hl;exact base .str l l' vs t x (by cases l <;> exact h) hl
 | cst c=>intro l l' vs t x h hl;exact base (.cst c) l l' vs t x (by cases l <;> exact h) hl
 | sl u ih=>intro l l' vs t x h hl;exact base (.sl u) l l' vs t x (by cases l <;> exact h) hl
def EZ:Ty→E→List Nat→List SV→Option (Ty×E)
 | t,x,[],[]=>some (t,x)
 | t,x,o::os,z::zs=>match Vz (match (jU (.part o none) t).map (·.1) with | some u=>some u | none=>none) z with
  | some (u,e)=>if u.ag=some false then (match ty2 (.upd o) t u with
   | some t'=>EZ t' (.p2 (.upd o) x e) os zs
   | none=>none) else none
  | none=>none
 | _,_,_,_=>none
def asE (w:Option Ty):SV→Option (Ty×E)
 | .kd cs=>match w with
  | some t=>if t.ag=some true∧(oI t (cs.map zW)).map List.length=some 0 then some (t,.zero t) else none
  | none=>none
 | .mix t x os zs=>match EZ t x os zs with
  | some (u,e)=>if t.ag=some true∧u.ag=some true then some (u,e) else none
  | none=>none
 | .agg cs=>match w with
  | some t=>match chain t cs with
   | some ((u,x),[])=>if u.ag=some true then some (u,x) else none
   | _=>none
  | none=>none
 | y=>Vz w y
theorem Xd {v:V} {d:D} (h:v.lu=some d):v.toD=some d:=by cases v <;> simp_all [V.toD,V.lu]
theorem iC {t:Ty} (h:t.ag=some false):t.size=1:=by cases t <;> simp_all [Ty.ag,Ty.size]
theorem gJ {α:Type} {cs:List α} {x:α} {o:Nat} (h:o+1≤cs.length) (i:Nat):(over cs [x] o)[i]? = if i=o then some x else cs[i]?:=by
 simp only [over,List.append_assoc]
 by_cases h1:i<o
 ·rw [List.getElem?_append_left (by rw [List.length_take];omega),List.getElem?_take_of_lt h1,if_neg (by omega)]
 ·rw [List.getElem?_append_right (by rw [List.length_take];omega),List.length_take,Nat.min_eq_left (by omega)]
  by_cases h2:i=o
  ·subst h2;simp
  ·rw [if_neg h2]
   have:i - o=(i - o - 1)+1:=by omega
   rw [this,List.cons_append,List.nil_append,List.getElem?_cons_succ,List.getElem?_drop]
   congr 1
   simp only [List.length_cons,List.length_nil];omega
theorem H7 {f:V→Option D}:∀ {c:List V} {ds:List D},c.length=ds.length→(∀ (i:Nat) (d:D),ds[i]? = some d→∃ v:V,c[i]? = some v∧f v=some d)→eX f c=some ds
 | [],[],_,_=>rfl
 | v::c,d::ds,hl,h=>by
  obtain ⟨v',h1,h2⟩:=h 0 d rfl
  simp only [List.getElem?_cons_zero,Option.some.injEq] at h1
  subst h1
  exact oJ h2 (H7 (by simpa using hl) fun i d hd=>h (i+1) d hd)
 | [],_::_,hl,_=>by simp at hl
 | _::_,[],hl,_=>by simp at hl
theorem oK {env:List Val} {c:List V}:∀ {zs:List SV} {os:List Nat} {t u:Ty} {x e:E} {a:t.den},EZ t x os zs=some (u,e)→x.val env=some ⟨t,a⟩→aV env os zs c→c.length=t.size →
  (∀ (i:Nat) (d:D),i ∉ os→(enc t a)[i]? = some d→∃ v:V,c[i]? = some v∧v.lu=some d)→∃ b,e.val env=some ⟨u,b⟩∧u.size=t.size∧eX V.lu c=some (enc u b)
 | [],os,t,u,x,e,a,h,hx,hp,hl,hr=>by
  simp only [aV] at hp
  subst hp
  cases h
  exact ⟨a,hx,rfl,H7 (by rw [ak];exact hl) fun i d hd=>hr i d (by simp) hd⟩
 | z::zs,os,t,u,x,e,a,h,hx,hp,hl,hr=>by
  simp only [aV] at hp
  obtain ⟨o,os',rfl,⟨v,hv1,hv2⟩,hp'⟩:=hp
  simp only [EZ] at h
  split at h
  ·rename_i w y hy
   split at h
   ·rename_i hw
    split at h
    ·rename_i t' ht
     obtain ⟨b,e1,e2⟩:=H6 hy hv2
     obtain ⟨f,k1,k2⟩:=Hw ht hx e1
     obtain ⟨g1,g2,g3,g4⟩:=jF _ _ _ _ _ (show vw t w o=some ⟨t',f⟩ from k1)
     obtain ⟨d,d1,d2⟩:=xG hw b
     have hb:bD w b=d:=by simp [bD,jw,hw,d1]
     have hs:=iC hw
     obtain ⟨r,r1,r2,r3⟩:=oK (c:=c) h k2 hp' (by rw [hl,g2]) (fun i q hi hq=>by
      rw [g4,d1,gJ (by rw [ak];omega)] at hq
      split at hq
      ·rename_i hio
       cases hq
       subst hio
       exact ⟨v,hv1,by rw [e2,hb]⟩
      ·rename_i hio
       exact hr i q (by simp only [List.mem_cons,not_or];exact ⟨hio,hi⟩) hq)
     exact ⟨r,r1,by rw [r2,g2],r3⟩
    ·cases h
   ·cases h
  ·cases h
theorem wC {t:Ty} {a:t.den} {c:List V} {os:List Nat} (h:∀ i,i<t.size→i ∉ os→c[i]? = ((enc t a)[i]?).map V.d):∀ (i:Nat) (d:D),i ∉ os→(enc t a)[i]? = some d→∃ v:V,c[i]? = some v∧v.lu=some d:=fun i d hi hd=>by
 have hlt:i<t.size:=by rw [← ak t a];exact (List.getElem?_eq_some_iff.1 hd).1
 refine ⟨.d d,?_,rfl⟩
 rw [h i hlt hi,hd];rfl
theorem qJ {env:List Val} {w:Option Ty} {y:SV} {v:V} {t:Ty} {x:E} (h:asE w y=some (t,x)) (hv:ah env y v):∃ a,x.val env=some ⟨t,a⟩∧v.toD=some (bD t a):=by
 have one:Vz w y=some (t,x)→∃ a,x.val env=some ⟨t,a⟩∧v.toD=some (bD t a):=fun h=>by
  obtain ⟨a,h1,h2⟩:=H6 h hv
  exact ⟨a,h1,Xd h2⟩
 cases y with
 | kd cs =>
  simp only [asE] at h
  simp only [ah] at hv;subst hv
  split at h
  ·split at h
   ·rename_i hc
    cases h
    obtain ⟨r,h1,h2⟩:=Option.map_eq_some_iff.1 hc.2
    have hr:r=[]:=List.eq_nil_of_length_eq_zero h2
    subst hr
    refine ⟨_,rfl,?_⟩
    rw [bY hc.1]
    have:=HY _ _ _ h1
    rw [List.append_nil] at this
    rw [this];rfl
   ·cases h
  ·cases h
 | mix t0 x0 os zs =>
  simp only [asE] at h
  simp only [ah] at hv
  obtain ⟨a,c,h1,rfl,h3,h4,h5⟩:=hv
  split at h
  ·rename_i u e hp
   split at h
   ·rename_i hag
    cases h
    obtain ⟨b,r1,r2,r3⟩:=oK hp h1 h4 h3 (wC h5)
    exact ⟨b,r1,by simp [V.toD,r3,bY hag.2]⟩
   ·cases h
  ·cases h
 | agg cs =>
  simp only [asE] at h
  simp only [ah] at hv
  obtain ⟨c,rfl,h2⟩:=hv
  split at h
  ·split at h
   ·rename_i w' u x' h1
    split at h
    ·rename_i ha
     cases h
     obtain ⟨a,us,vs',e1,e2,e3,e4⟩:=CJ _ _ _ _ _ _ h1 h2
     simp only [aB] at e3
     subst e3
     rw [List.append_nil] at e2
     subst e2
     exact ⟨a,e1,by simp [V.toD,e4,bY ha]⟩
    ·cases h
   ·cases h
  ·cases h
 | _=>exact one h
end Go.Tx
namespace Go.Tx
open Go Go.Ab
def xO (ag:Bool) (w:Option Ty) (off sz:Nat) (u:Ty) (x:E):Option (Ty×E) :=
 if ag then (match w with
  | some w=>if off=0∧u.size=sz∧w.like u=true∧u.ag=some true then some (u,x) else (match ty1 (.part off (some w)) u with
   | some v=>if v.size=sz then some (v,.p1 (.part off (some w)) x) else none
   | none=>none)
  | none=>none)
 else if sz=1 then (if off=0∧u.ag=some false then some (u,x) else (ty1 (.part off none) u).map fun v=>(v,.p1 (.part off none) x)) else none
theorem sN {env:List Val} {ag:Bool} {w:Option Ty} {off sz:Nat} {u v:Ty} {x y:E} {a:u.den} (h:xO ag w off sz u x=some (v,y)) (hx:x.val env=some ⟨u,a⟩) :
  ∃ b,y.val env=some ⟨v,b⟩∧v.ag=some ag∧v.size=sz∧off+sz≤u.size∧enc v b=((enc u a).drop off).take sz:=by
 have whole:∀ (h0:off=0) (h1:u.size=sz),enc u a=((enc u a).drop off).take sz:=fun h0 h1=>by
  rw [h0,List.drop_zero,List.take_of_length_le (by rw [ak];omega)]
 unfold xO at h
 split at h
 ·rename_i hag
  split at h
  ·rename_i w'
   split at h
   ·rename_i hc
    cases h
    exact ⟨a,hx,by rw [hc.2.2.2,hag],hc.2.1,by omega,whole hc.1 hc.2.1⟩
   ·split at h
    ·rename_i v' hv
     split at h
     ·rename_i hs
      cases h
      obtain ⟨f,h1,h2⟩:=Zt hv hx
      obtain ⟨k1,k2,k3⟩:=xI _ _ _ _ _ (show nO u off (some w')=some ⟨v,f⟩ from h1)
      simp only [hit,Bool.and_eq_true,decide_eq_true_eq] at k2
      exact ⟨f a,h2,by rw [k2.1,hag],hs,by omega,by rw [k3,hs]⟩
     ·cases h
    ·cases h
  ·cases h
 ·rename_i hag
  have hag' : ag=false:=by simpa using hag
  split at h
  ·rename_i hs
   split at h
   ·rename_i hc
    cases h
    have:=iC hc.2
    exact ⟨a,hx,by rw [hc.2,hag'],by omega,by omega,whole hc.1 (by omega)⟩
   ·obtain ⟨v',hv,h2⟩:=Option.map_eq_some_iff.1 h
    cases h2
    obtain ⟨f,h1,h2⟩:=Zt hv hx
    obtain ⟨k1,k2,k3⟩:=xI _ _ _ _ _ (show nO u off none=some ⟨v,f⟩ from h1)
    simp only [hit,decide_eq_true_eq] at k2
    have:=iC k2
    exact ⟨f a,h2,by rw [k2,hag'],by omega,by omega,by rw [k3,this,hs]⟩
  ·cases h
theorem jM {t:Ty} (h:t.ag=some false) (x:t.den):enc t x=[bD t x]∧D.flat (bD t x)=true:=by
 obtain ⟨y,e,hf⟩:=xG h x
 have:bD t x=y:=by simp [bD,jw,h,e]
 rw [this];exact ⟨e,hf⟩
theorem CO {d:D} (hf:D.flat d=true) {sz:Nat}:bF false 0 sz (.d d) = .d d:=by cases d <;> simp_all [D.flat,bF,V.cells]
theorem iD (d:D):(V.d d).cells=d.cells.map V.d:=by cases d <;> simp [V.cells,D.cells]
theorem OZ {env:List Val} {ag:Bool} {w:Option Ty} {off sz:Nat} {u v:Ty} {x y:E} {c:V} (h:xO ag w off sz u x=some (v,y)) (hc:ah env (.e u x) c) :
  ah env (.e v y) (bF ag off sz c)∧off+sz≤c.cells.length:=by
 simp only [ah] at hc
 obtain ⟨a,hx,rfl⟩:=hc
 obtain ⟨b,h1,h2,h3,h4,h5⟩:=sN h hx
 refine ⟨?_,by rw [iD,List.length_map,aF,ak];exact h4⟩
 simp only [ah]
 refine ⟨b,h1,?_⟩
 cases ag with
 | true =>
  rw [bY h2]
  cases hu:u.ag with
  | none =>
   have e:bD u a = .agg (enc u a):=by simp [bD,jw,hu]
   rw [e];simp only [bF]
   split
   ·rename_i hz;rw [h5,hz.1,List.drop_zero,List.take_of_length_le (by omega)]
   ·rw [h5]
  | some g =>
   cases g with
   | true =>
    rw [bY hu];simp only [bF]
    split
    ·rename_i hz;rw [h5,hz.1,List.drop_zero,List.take_of_length_le (by omega)]
    ·rw [h5]
   | false =>
    exfalso
    unfold xO at h
    simp only [if_true] at h
    split at h
    ·split at h
     ·rename_i hz;rw [hu] at hz;simp at hz
     ·split at h
      ·split at h
       ·rename_i v' hv _
        cases h
        obtain ⟨f,k1,_⟩:=Zt hv hx
        cases u <;> simp [Ty.ag] at hu <;> simp [jU,nO,hit,Ty.ag] at k1
       ·cases h
      ·cases h
    ·cases h
 | false =>
  obtain ⟨e1,e2⟩:=jM h2 b
  cases hu:u.ag with
  | none =>
   have e:bD u a = .agg (enc u a):=by simp [bD,jw,hu]
   rw [e];simp only [bF]
   have:(enc u a)[off]? = some (bD v b):=by
    rw [e1] at h5
    have h6:=congrArg (fun l:List D=>l[0]?) h5
    rw [List.getElem?_take_of_lt (by have:=iC h2;omega),List.getElem?_drop] at h6
    simpa using h6.symm
   rw [this];rfl
  | some g =>
   cases g with
   | true =>
    rw [bY hu];simp only [bF]
    have:(enc u a)[off]? = some (bD v b):=by
     rw [e1] at h5
     have h6:=congrArg (fun l:List D=>l[0]?) h5
     rw [List.getElem?_take_of_lt (by have:=iC h2;omega),List.getElem?_drop] at h6
     simpa using h6.symm
    rw [this];rfl
   | false =>
    have hu1:=iC hu
    have hv1:=iC h2
    have h0:off=0:=by omega
    obtain ⟨f1,f2⟩:=jM hu a
    rw [h0,CO f2]
    congr 1
    rw [h0,List.drop_zero,f1,e1] at h5
    have h6:=congrArg (fun l:List D=>l[0]?) h5
    rw [List.getElem?_take_of_lt (by omega)] at h6
    simpa using h6.symm
theorem O1 {env:List Val} {ag:Bool} {w:Option Ty} {off sz:Nat} {u v:Ty} {x y:E} {cs:List D} {a:u.den} (h:xO ag w off sz u x=some (v,y)) (hx:x.val env=some ⟨u,a⟩) (hp:((enc u a).drop off) <+: cs) :
  ah env (.e v y) (takeD ag sz cs)∧sz≤cs.length:=by
 obtain ⟨b,h1,h2,h3,h4,h5⟩:=sN h hx
 have hl:sz≤((enc u a).drop off).length:=by rw [List.length_drop,ak];omega
 have hlen:sz≤cs.length:=Nat.le_trans hl hp.length_le
 have ht:cs.take sz=enc v b:=by
  obtain ⟨r,rfl⟩:=hp
  rw [List.take_append_of_le_length hl,h5]
 refine ⟨?_,hlen⟩
 simp only [ah]
 refine ⟨b,h1,?_⟩
 cases ag with
 | true =>
  rw [bY h2]
  simp only [takeD,if_true]
  split
  ·rename_i he;rw [← ht,List.take_of_length_le (by omega)]
  ·rw [ht]
 | false =>
  obtain ⟨e1,e2⟩:=jM h2 b
  have hs:=iC h2
  cases cs with
  | nil=>simp at hlen;omega
  | cons c cs =>
   simp only [takeD,Bool.false_eq_true,if_false]
   rw [e1] at ht
   have:sz=1:=by omega
   subst this
   simp at ht
   rw [ht]
def single:SV→Bool
 | .nil | .own _ _ _ _ | .ptr _ _ | .aptr _ _ _ _ _ _ | .ref _ _ _ | .fn _ _ | .yld _ | .mref _ | .vsl _ | .vpt _ _ _ _=>true
 | _=>false
theorem kV {env:List Val} {x:SV} {v:V} (h:single x=true) (hv:ah env x v):v.cells=[v]∧(∀ d,v ≠ .d d):=by
 cases x <;> simp only [single,Bool.false_eq_true] at h <;> simp only [ah] at hv
 ·subst hv;exact ⟨rfl,by simp⟩
 ·obtain ⟨_,_,_,rfl⟩:=hv;exact ⟨rfl,by simp⟩
 ·subst hv;exact ⟨rfl,by simp⟩
 ·obtain ⟨_,_,_,_,_,rfl⟩:=hv;exact ⟨rfl,by simp⟩
 ·obtain ⟨_,_,_,rfl,_⟩:=hv;exact ⟨rfl,by simp⟩
 ·obtain ⟨_,rfl,_⟩:=hv;exact ⟨rfl,by simp⟩
 ·subst hv;exact ⟨rfl,by simp⟩
 ·subst hv;exact ⟨rfl,by simp⟩
 ·subst hv;exact ⟨rfl,by simp⟩
 ·obtain ⟨_,_,_,_,rfl⟩:=hv;exact ⟨rfl,by simp⟩
def solid:SV→Bool
 | .ptr _ _ | .aptr _ _ _ _ _ _ | .ref _ _ _ | .fn _ _ | .yld _ | .mref _ | .vsl _ | .vpt _ _ _ _=>true
 | _=>false
theorem fQ {env:List Val} {x:SV} {v:V} (h:solid x=true) (hv:ah env x v):v.lu=none∧v.asD=none:=by
 cases x <;> simp only [solid,Bool.false_eq_true] at h <;> simp only [ah] at hv
 ·subst hv;exact ⟨rfl,rfl⟩
 ·obtain ⟨_,_,_,_,_,rfl⟩:=hv;exact ⟨rfl,rfl⟩
 ·obtain ⟨_,_,_,rfl,_⟩:=hv;exact ⟨rfl,rfl⟩
 ·obtain ⟨_,rfl,_⟩:=hv;exact ⟨rfl,rfl⟩
 ·subst hv;exact ⟨rfl,rfl⟩
 ·subst hv;exact ⟨rfl,rfl⟩
 ·subst hv;exact ⟨rfl,rfl⟩
 ·obtain ⟨_,_,_,_,rfl⟩:=hv;exact ⟨rfl,rfl⟩
theorem E5 {f:V→Option D} {env:List Val} {p:SV→Bool} (hp:∀ x v,p x=true→ah env x v→f v=none):∀ {xs:List SV} {vs:List V},aB env xs vs→xs.any p=true→eX f vs=none
 | [],vs,h,ha=>by simp at ha
 | x::xs,vs,h,ha=>by
  simp only [aB] at h
  obtain ⟨v,vs',rfl,h2,h3⟩:=h
  simp only [List.any_cons,Bool.or_eq_true] at ha
  rcases ha with ha | ha
  ·simp [eX,hp _ _ ha h2]
  ·have:=E5 hp h3 ha
   simp only [eX,this]
   split <;> simp_all
def O4 (w:Option Ty) (cs:List SV):Option SV :=
 if cs.any solid then some (.agg cs) else (match w with
  | some w=>match chain w cs with
   | some ((u,x),[])=>if u.ag=some true then some (.e u x) else none
   | _=>none
  | none=>none)
theorem O5 {env:List Val} {w:Option Ty} {cs:List SV} {z:SV} {vs:List V} (h:O4 w cs=some z) (hv:aB env cs vs):ah env z (ug vs):=by
 unfold O4 at h
 split at h
 ·rename_i ha
  cases h
  have:=E5 (f:=V.lu) (fun x v h1 h2=>(fQ h1 h2).1) hv ha
  simp only [ug,this,ah]
  exact ⟨vs,rfl,hv⟩
 ·split at h
  ·split at h
   ·rename_i w' u x hc
    split at h
    ·rename_i hag
     cases h
     obtain ⟨a,us,vs',e1,e2,e3,e4⟩:=CJ _ _ _ _ _ _ hc hv
     simp only [aB] at e3
     subst e3
     rw [List.append_nil] at e2
     subst e2
     simp only [ug,e4,ah]
     exact ⟨a,e1,by rw [bY hag]⟩
    ·cases h
   ·cases h
  ·cases h
def oL (off:Nat):List Nat→List SV→Option SV
 | o::os,z::zs=>if o=off then some z else oL off os zs
 | _,_=>none
theorem qg {env:List Val} {off:Nat}:∀ {zs:List SV} {os:List Nat} {c:List V},aV env os zs c→(∀ z,oL off os zs=some z→∃ v,c[off]? = some v∧ah env z v)∧(oL off os zs=none→off ∉ os)
 | [],os,c,h=>by simp only [aV] at h;subst h;simp [oL]
 | z::zs,os,c,h=>by
  simp only [aV] at h
  obtain ⟨o,os',rfl,⟨v,h2,h3⟩,h4⟩:=h
  simp only [oL]
  split
  ·rename_i e;subst e
   exact ⟨fun z hz=>by cases hz;exact ⟨v,h2,h3⟩,fun e=>nomatch e⟩
  ·rename_i e
   obtain ⟨k1,k2⟩:=qg h4
   exact ⟨k1,fun hn=>by simp only [List.mem_cons,not_or];exact ⟨fun e'=>e e'.symm,k2 hn⟩⟩
theorem aV.fQ {env:List Val} {f:V→Option D} {p:SV→Bool} (hp:∀ x v,p x=true→ah env x v→f v=none):∀ {zs:List SV} {os:List Nat} {c:List V},aV env os zs c→zs.any p=true→eX f c=none
 | [],os,c,h,ha=>by simp at ha
 | z::zs,os,c,h,ha=>by
  simp only [aV] at h
  obtain ⟨o,os',rfl,⟨v,h2,h3⟩,h4⟩:=h
  simp only [List.any_cons,Bool.or_eq_true] at ha
  rcases ha with ha | ha
  ·have hv:=hp _ _ ha h3
   cases ht:eX f c with
   | none=>rfl
   | some ds =>
    obtain ⟨k1,k2⟩:=fF ht
    obtain ⟨hlt,he⟩:=List.getElem?_eq_some_iff.1 h2
    have:=k2 o hlt (by omega)
    rw [he,hv] at this;cases this
  ·exact aV.fQ hp h4 ha
def CP (ag:Bool) (w:Option Ty) (off sz:Nat) (c:SV):Option SV :=
 match c with
 | .e u x=>(xO ag w off sz u x).map fun r=>.e r.1 r.2
 | .agg cs=>if off+sz≤cs.length then (if ag then O4 w ((cs.drop off).take sz) else if sz=1 then cs[off]? else none) else none
 | .mix t x os zs=>if off+sz≤t.size then (if ag then (if off=0∧sz=t.size then (if zs.any solid then some (.mix t x os zs) else (asE w (.mix t x os zs)).map fun r=>.e r.1 r.2)
   else if os.all (fun o=>decide (o<off∨off+sz≤o))=true then (xO true w off sz t x).map fun r=>.e r.1 r.2 else none)
   else if sz=1 then (match oL off os zs with
    | some z=>some z
    | none=>(xO false w off 1 t x).map fun r=>.e r.1 r.2) else none) else none
 | .kd cs=>if ag=true∧off=0∧sz=cs.length then (asE w (.kd cs)).map fun r=>.e r.1 r.2 else none
 | c=>if single c=true∧ag=false∧off=0∧sz=1 then some c else none
theorem CQ {env:List Val} {ag:Bool} {w:Option Ty} {off sz:Nat} {y z:SV} {c:V} (h:CP ag w off sz y=some z) (hc:ah env y c):ah env z (bF ag off sz c)∧off+sz≤c.cells.length:=by
 have one:(if single y=true∧ag=false∧off=0∧sz=1 then some y else none)=some z→ah env z (bF ag off sz c)∧off+sz≤c.cells.length:=fun h=>by
  split at h
  ·rename_i hh
   cases h
   obtain ⟨h1,h2,h3,h4⟩:=hh
   obtain ⟨e1,e2⟩:=kV h1 hc
   rw [h2,h3,h4,e1]
   refine ⟨?_,by simp⟩
   have:bF false 0 1 c=c:=by
    cases c <;> simp_all [bF]
   rw [this];exact hc
  ·cases h
 cases y with
 | e u x =>
  simp only [CP] at h
  obtain ⟨⟨v,q⟩,h1,h2⟩:=Option.map_eq_some_iff.1 h
  cases h2
  exact OZ h1 hc
 | agg cs =>
  simp only [CP] at h
  simp only [ah] at hc
  obtain ⟨vs,rfl,hl⟩:=hc
  have hlen:=hl.len
  split at h
  ·rename_i hle
   split at h
   ·rename_i hag
    subst hag
    refine ⟨?_,by simp only [V.cells];omega⟩
    exact O5 h hl.drop.take
   ·rename_i hag
    have hag:ag=false:=by simpa using hag
    subst hag
    split at h
    ·obtain ⟨v,h1,h2⟩:=hl.get h
     refine ⟨?_,by simp only [V.cells];omega⟩
     simp only [bF,V.cells,h1];exact h2
    ·cases h
  ·cases h
 | mix t x os zs =>
  simp only [CP] at h
  have hc':=hc
  simp only [ah] at hc
  obtain ⟨a,cs,h1,rfl,h3,h4,h5⟩:=hc
  split at h
  ·rename_i hle
   refine ⟨?_,by simp only [V.cells];omega⟩
   split at h
   ·rename_i hag
    subst hag
    split at h
    ·rename_i hw
     obtain ⟨h0,hs⟩:=hw
     subst h0
     have hall:(cs.drop 0).take sz=cs:=by rw [List.drop_zero,List.take_of_length_le (by omega)]
     simp only [bF,V.cells,hall]
     split at h
     ·rename_i hsol
      cases h
      have:=aV.fQ (f:=V.lu) (fun x v h1 h2=>(fQ h1 h2).1) h4 hsol
      simp only [ug,this]
      exact hc'
     ·obtain ⟨⟨u,e⟩,hp,he⟩:=Option.map_eq_some_iff.1 h
      cases he
      simp only [asE] at hp
      split at hp
      ·rename_i u' e' hpp
       split at hp
       ·rename_i hag
        cases hp
        obtain ⟨b,r1,r2,r3⟩:=oK hpp h1 h4 h3 (wC h5)
        simp only [ug,r3,ah]
        exact ⟨b,r1,by rw [bY hag.2]⟩
       ·cases hp
      ·cases hp
    ·split at h
     ·rename_i hos
      obtain ⟨⟨u,e⟩,hp,he⟩:=Option.map_eq_some_iff.1 h
      cases he
      obtain ⟨b,r1,r2,r3,r4,r5⟩:=sN hp h1
      have hds:eX V.lu ((cs.drop off).take sz)=some (((enc t a).drop off).take sz):=by
       refine H7 (by simp only [List.length_take,List.length_drop,ak,h3]) fun i d hd=>?_
       have hi:i<sz:=by
        have:=(List.getElem?_eq_some_iff.1 hd).1
        simp only [List.length_take] at this;omega
       rw [List.getElem?_take_of_lt hi,List.getElem?_drop] at hd ⊢
       refine ⟨.d d,?_,rfl⟩
       rw [h5 (off+i) (by omega) (fun hm=>by
        have:=List.all_eq_true.1 hos _ hm
        simp only [decide_eq_true_eq] at this;omega),hd];rfl
      simp only [bF,V.cells,ug,hds,ah]
      exact ⟨b,r1,by rw [bY r2,r5]⟩
     ·cases h
   ·rename_i hag
    have hag:ag=false:=by simpa using hag
    subst hag
    split at h
    ·obtain ⟨p1,p2⟩:=qg (off:=off) h4
     split at h
     ·rename_i z' hz'
      cases h
      obtain ⟨v,e1,e2⟩:=p1 _ hz'
      simp only [bF,V.cells,e1]
      exact e2
     ·rename_i hz'
      obtain ⟨⟨u,e⟩,hp,he⟩:=Option.map_eq_some_iff.1 h
      cases he
      obtain ⟨b,r1,r2,r3,r4,r5⟩:=sN hp h1
      obtain ⟨f1,f2⟩:=jM r2 b
      rw [f1] at r5
      have h6:=congrArg (fun l:List D=>l[0]?) r5
      rw [List.getElem?_take_of_lt (by omega),List.getElem?_drop] at h6
      simp only [List.getElem?_cons_zero,Nat.add_zero] at h6
      simp only [bF,V.cells,h5 off (by omega) (p2 hz'),← h6,Option.map_some,Option.getD_some,ah]
      exact ⟨b,r1,rfl⟩
    ·cases h
  ·cases h
 | kd cs =>
  simp only [CP] at h
  split at h
  ·rename_i hh
   obtain ⟨h1,h2,h3⟩:=hh
   obtain ⟨⟨v,q⟩,h4,h5⟩:=Option.map_eq_some_iff.1 h
   cases h5
   obtain ⟨a,e1,e2⟩:=qJ h4 hc
   simp only [ah] at hc
   subst hc
   subst h1;subst h2
   refine ⟨?_,by simp [V.cells,h3]⟩
   simp only [bF,List.length_map,h3,ah,true_and,if_true]
   refine ⟨a,e1,?_⟩
   simp only [V.toD,V.lu,Option.some.injEq] at e2
   rw [e2]
  ·cases h
 | _=>exact one h
end Go.Tx
namespace Go.Tx
open Go Go.Ab
def xP:SV→Option Nat
 | .e t _=>some t.size
 | .agg cs=>some cs.length
 | .mix t _ _ _=>some t.size
 | .kd cs=>some cs.length
 | y=>if single y then some 1 else none
theorem qK {env:List Val} {x:SV} {v:V} (h:single x=true) (hv:ah env x v):isCells v=true:=by
 cases x <;> simp only [single,Bool.false_eq_true] at h <;> simp only [ah] at hv
 ·subst hv;rfl
 ·obtain ⟨_,_,_,rfl⟩:=hv;rfl
 ·subst hv;rfl
 ·obtain ⟨_,_,_,_,_,rfl⟩:=hv;rfl
 ·obtain ⟨_,_,_,rfl,_⟩:=hv;rfl
 ·obtain ⟨_,rfl,_⟩:=hv;rfl
 ·subst hv;rfl
 ·subst hv;rfl
 ·subst hv;rfl
 ·obtain ⟨_,_,_,_,rfl⟩:=hv;rfl
theorem jf {env:List Val} {y:SV} {v:V} {n:Nat} (h:xP y=some n) (hv:ah env y v):v.cells.length=n∧isCells v=true:=by
 have one:(if single y=true then some 1 else none)=some n→v.cells.length=n∧isCells v=true:=fun h=>by
  split at h
  ·rename_i hs
   cases h
   obtain ⟨e1,e2⟩:=kV hs hv
   exact ⟨by rw [e1];rfl,qK hs hv⟩
  ·cases h
 cases y with
 | e t x=>cases h;simp only [ah] at hv;obtain ⟨a,_,rfl⟩:=hv;exact ⟨by rw [iD,List.length_map,aF,ak],rfl⟩
 | agg cs=>cases h;simp only [ah] at hv;obtain ⟨c,rfl,hl⟩:=hv;exact ⟨hl.len,rfl⟩
 | mix t x os zs=>cases h;simp only [ah] at hv;obtain ⟨a,c,h1,rfl,h3,h4⟩:=hv;exact ⟨h3,rfl⟩
 | kd cs=>cases h;simp only [ah] at hv;subst hv;exact ⟨by simp [V.cells],rfl⟩
 | _=>exact one h
def VA:SV→Bool
 | .own _ _ _ _=>true
 | y=>solid y
theorem E8 {env:List Val} {x:SV} {v:V} (h:VA x=true) (hv:ah env x v):v.asD=none:=by
 have hs:(∃ i sz t y,x = .own i sz t y)∨solid x=true:=by
  cases x <;> first | exact .inl ⟨_,_,_,_,rfl⟩ | exact .inr h
 rcases hs with ⟨i,sz,t,y,rfl⟩ | hs
 ·simp only [ah] at hv;obtain ⟨_,_,_,rfl⟩:=hv;rfl
 ·exact (fQ hs hv).2
def iK (off n:Nat):List Nat→List SV→List Nat×List SV
 | o::os,z::zs=>match iK off n os zs with
  | (os',zs')=>if o<off∨off+n≤o then (o::os',z::zs') else (os',zs')
 | _,_=>([],[])
theorem mX {env:List Val} {off:Nat} {xs:List V}:∀ {zs:List SV} {os:List Nat} {c:List V},aV env os zs c→off+xs.length≤c.length→aV env (iK off xs.length os zs).1 (iK off xs.length os zs).2 (over c xs off)∧∀ i,i ∉ (iK off xs.length os zs).1→i∈os→off≤i∧i<off+xs.length
 | [],os,c,h,_=>by simp only [aV] at h;subst h;simp [iK,aV]
 | z::zs,os,c,h,hle=>by
  simp only [aV] at h
  obtain ⟨o,os',rfl,⟨v,h2,h3⟩,h4⟩:=h
  obtain ⟨k1,k2⟩:=mX h4 hle
  simp only [iK]
  split
  ·rename_i hc
   refine ⟨⟨_,_,rfl,⟨v,?_,h3⟩,k1⟩,fun i hi hm=>?_⟩
   ·simp only [over,List.append_assoc]
    have ho:=(List.getElem?_eq_some_iff.1 h2).1
    rcases hc with hc | hc
    ·rw [List.getElem?_append_left (by rw [List.length_take];omega),List.getElem?_take_of_lt hc];exact h2
    ·rw [List.getElem?_append_right (by rw [List.length_take];omega),List.getElem?_append_right (by rw [List.length_take];omega),List.getElem?_drop]
     rw [List.length_take,Nat.min_eq_left (by omega)]
     rw [show off+xs.length+(o - off - xs.length)=o by omega];exact h2
   ·simp only [List.mem_cons,not_or] at hi hm
    rcases hm with rfl | hm
    ·exact absurd rfl hi.1
    ·exact k2 i hi.2 hm
  ·rename_i hc
   refine ⟨k1,fun i hi hm=>?_⟩
   rcases List.mem_cons.1 hm with rfl | hm
   ·omega
   ·exact k2 i hi hm
theorem wE {α:Type} {cs xs:List α} {off i:Nat} (h:i<off∨off+xs.length≤i) (hle:off+xs.length≤cs.length):(over cs xs off)[i]? = cs[i]?:=by
 simp only [over,List.append_assoc]
 rcases h with h | h
 ·rw [List.getElem?_append_left (by rw [List.length_take];omega),List.getElem?_take_of_lt h]
 ·rw [List.getElem?_append_right (by rw [List.length_take];omega),List.getElem?_append_right (by rw [List.length_take];omega),List.getElem?_drop,List.length_take,Nat.min_eq_left (by omega)]
  congr 1;omega
theorem CU {α:Type} {cs xs:List α} {off i:Nat} (h:off≤i) (h2:i<off+xs.length) (hle:off+xs.length≤cs.length):(over cs xs off)[i]? = xs[i - off]?:=by
 simp only [over,List.append_assoc]
 rw [List.getElem?_append_right (by rw [List.length_take];omega),List.length_take,Nat.min_eq_left (by omega),List.getElem?_append_left (by omega)]
def JA (off:Nat) (x c:SV):Option SV :=
 match xP x,xP c with
 | some n,some m =>
  if off=0∧n=m then some x
  else if off+n≤m then (match c with
   | .e t z=>match x with
    | .e u y=>if t.ag=some true then (ty2 (.upd off) t u).map fun v=>.e v (.p2 (.upd off) z y) else none
    | x=>if VA x=true∧t.ag=some true then some (.mix t z [off] [x]) else none
   | .mix t z os zs=>match x with
    | .e u y=>match ty2 (.upd off) t u with
     | some t'=>if (iK off u.size os zs).2.any VA=true then some (.mix t' (.p2 (.upd off) z y) (iK off u.size os zs).1 (iK off u.size os zs).2)
      else if (iK off u.size os zs).2.all (fun q=>match q with | .e _ _=>true | .nil=>true | _=>false)=true∧t.ag=some true then (match EZ t' (.p2 (.upd off) z y) (iK off u.size os zs).1 (iK off u.size os zs).2 with
       | some (v,e)=>if v.ag=some true then some (.e v e) else none
       | none=>none) else none
     | none=>none
    | x=>if VA x=true then some (.mix t z (off::(iK off 1 os zs).1) (x::(iK off 1 os zs).2)) else none
   | _=>none)
  else none
 | _,_=>none
def oM (off:Nat) (x c:V):V:=match x,c with
 | .d d,.d (.agg ds)=>.d (.agg (ds.take off++d.cells++ds.drop (off+d.cells.length)))
 | _,_=>lH (c.cells.take off++x.cells++c.cells.drop (off+x.cells.length))
theorem xQ (off:Nat) (x c:V):cZ off x c=if off=0∧x.cells.length=c.cells.length then x else oM off x c:=rfl
theorem xR {x:SV} (h:VA x=true):single x=true:=by cases x <;> simp_all [VA,solid,single]
theorem aV.VB {env:List Val}:∀ {zs:List SV} {os:List Nat} {c:List V},aV env os zs c→zs.all (fun q=>match q with | .e _ _=>true | .nil=>true | _=>false)=true→∀ i∈os,∀ v,c[i]? = some v→v.asD=v.lu
 | [],os,c,h,_=>by simp only [aV] at h;subst h;simp
 | z::zs,os,c,h,ha=>by
  simp only [aV] at h
  obtain ⟨o,os',rfl,⟨v,h2,h3⟩,h4⟩:=h
  simp only [List.all_cons,Bool.and_eq_true] at ha
  intro i hi u hu
  rcases List.mem_cons.1 hi with rfl | hi
  ·rw [h2] at hu;cases hu
   cases z <;> simp at ha <;> simp only [ah] at h3
   ·obtain ⟨a,_,rfl⟩:=h3;rfl
   ·subst h3;rfl
  ·exact aV.VB h4 ha.2 i hi u hu
theorem Au {f g:V→Option D}:∀ {c:List V},(∀ (i:Nat) v,c[i]? = some v→f v=g v)→eX f c=eX g c
 | [],_=>rfl
 | v::c,h=>by
  simp only [eX]
  rw [h 0 v rfl,Au fun i u hu=>h (i+1) u hu]
theorem Fa {env:List Val} {off:Nat} {x c z:SV} {v d:V} (h:JA off x c=some z) (hv:ah env x v) (hd:ah env c d) :
  ah env z (cZ off v d)∧off+v.cells.length≤d.cells.length∧isCells v=true:=by
 unfold JA at h
 split at h
 ·rename_i n m hn hm
  obtain ⟨n1,n2⟩:=jf hn hv
  obtain ⟨m1,m2⟩:=jf hm hd
  split at h
  ·rename_i hc
   cases h
   refine ⟨?_,by omega,n2⟩
   unfold cZ
   rw [if_pos ⟨hc.1,by omega⟩];exact hv
  ·rename_i hnc
   split at h
   ·rename_i hle
    refine ⟨?_,by omega,n2⟩
    rw [xQ,if_neg (by omega)]
    have hlen:off+v.cells.length≤d.cells.length:=by omega
    have alone:∀ {x:SV},VA x=true→ah env x v→v.cells=[v]∧oM off v d=lH (over d.cells [v] off)∧eX V.asD (over d.cells [v] off)=none:=fun hf hx=>by
     obtain ⟨e1,e2⟩:=kV (xR hf) hx
     refine ⟨e1,?_,?_⟩
     ·unfold oM
      split
      ·exact (e2 _ rfl).elim
      ·rw [e1];rfl
     ·have hn:=E8 hf hx
      cases ht:eX V.asD (over d.cells [v] off) with
      | none=>rfl
      | some ds =>
       obtain ⟨k1,k2⟩:=fF ht
       have hg:(over d.cells [v] off)[off]? = some v:=by rw [gJ (by rw [e1] at hlen;exact hlen),if_pos rfl]
       obtain ⟨hlt,he⟩:=List.getElem?_eq_some_iff.1 hg
       have:=k2 off hlt (by omega)
       rw [he,hn] at this;cases this
    split at h
    ·rename_i t w
     simp only [ah] at hd
     obtain ⟨b,hb,rfl⟩:=hd
     split at h
     ·rename_i u y
      split at h
      ·rename_i hag
       obtain ⟨t',h1,h2⟩:=Option.map_eq_some_iff.1 h
       subst h2
       simp only [ah] at hv ⊢
       obtain ⟨a,ha,rfl⟩:=hv
       obtain ⟨f,k1,k2⟩:=Hw h1 hb ha
       obtain ⟨g1,g2,g3,g4⟩:=jF _ _ _ _ _ (show vw t u off=some ⟨t',f⟩ from k1)
       refine ⟨f b a,k2,?_⟩
       rw [bY (t:=t) hag,bY (t:=t') (by rw [g3,hag])]
       simp only [oM]
       rw [g4,aF]
       rfl
      ·cases h
     ·split at h
      ·rename_i hc
       cases h
       obtain ⟨e1,e2,e3⟩:=alone hc.1 hv
       rw [e2]
       have hcells:(V.d (bD t b)).cells=(enc t b).map V.d:=by rw [iD,aF]
       rw [hcells] at e3 ⊢
       simp only [lH,e3,ah]
       have hl1:off+1≤((enc t b).map V.d).length:=by rw [e1] at hlen;rw [← hcells];exact hlen
       refine ⟨b,_,hb,rfl,by rw [kU (by simpa using hl1),List.length_map,ak],⟨off,[],rfl,⟨v,by rw [gJ hl1,if_pos rfl],hv⟩,rfl⟩,fun i hi hn=>?_⟩
       simp only [List.mem_singleton] at hn
       rw [gJ hl1,if_neg hn,List.getElem?_map]
      ·cases h
    ·rename_i t w os zs
     simp only [ah] at hd
     obtain ⟨b,cs,hb,rfl,h3,h4,h5⟩:=hd
     split at h
     ·rename_i u y
      simp only [ah] at hv
      obtain ⟨a,ha,rfl⟩:=hv
      have hx:(V.d (bD u a)).cells=(enc u a).map V.d:=by rw [iD,aF]
      have hxl:((enc u a).map V.d).length=u.size:=by rw [List.length_map,ak]
      split at h
      ·rename_i t' ht
       obtain ⟨f,k1,k2⟩:=Hw ht hb ha
       obtain ⟨g1,g2,g3,g4⟩:=jF _ _ _ _ _ (show vw t u off=some ⟨t',f⟩ from k1)
       have hle' : off+((enc u a).map V.d).length≤cs.length:=by rw [hxl,h3];exact g1
       obtain ⟨q1,q2⟩:=mX (xs:=(enc u a).map V.d) h4 hle'
       rw [hxl] at q1 q2
       have hrest:∀ i,i<t'.size→i ∉ (iK off u.size os zs).1→(over cs ((enc u a).map V.d) off)[i]? = ((enc t' (f b a))[i]?).map V.d:=by
        intro i hi hn
        rw [g4]
        by_cases hin:off≤i∧i<off+u.size
        ·rw [CU hin.1 (by rw [hxl];exact hin.2) hle',CU hin.1 (by rw [ak];exact hin.2) (by rw [ak,ak];exact g1),List.getElem?_map]
        ·rw [wE (by rw [hxl];omega) hle',wE (by rw [ak];omega) (by rw [ak,ak];exact g1)]
         exact h5 i (by omega) fun hm=>hin (q2 i hn hm)
       have hst:oM off (.d (bD u a)) (.agg cs)=lH (over cs ((enc u a).map V.d) off):=by
        show lH (over cs (V.d (bD u a)).cells off)=_
        rw [hx]
       rw [hst]
       have hol:(over cs ((enc u a).map V.d) off).length=t'.size:=by rw [kU hle',h3,g2]
       split at h
       ·rename_i hf
        cases h
        have hnone:=aV.fQ (f:=V.asD) (fun x v h1 h2=>E8 h1 h2) q1 hf
        simp only [lH,hnone,ah]
        exact ⟨f b a,_,k2,rfl,hol,q1,hrest⟩
       ·split at h
        ·rename_i hall
         split at h
         ·rename_i v' e hp
          split at h
          ·rename_i hva
           cases h
           obtain ⟨r,r1,r2,r3⟩:=oK hp k2 q1 hol (wC hrest)
           have has:eX V.asD (over cs ((enc u a).map V.d) off)=some (enc v' r):=by
            rw [← r3]
            refine Au fun i q hq=>?_
            by_cases hm:i∈(iK off u.size os zs).1
            ·exact aV.VB q1 hall.1 i hm q hq
            ·have hi:i<t'.size:=by rw [← hol];exact (List.getElem?_eq_some_iff.1 hq).1
             have:=hrest i hi hm
             rw [hq] at this
             cases he:(enc t' (f b a))[i]? with
             | none=>rw [he] at this;cases this
             | some dd=>rw [he] at this;cases this;rfl
           simp only [lH,has,ah]
           exact ⟨r,r1,by rw [bY hva]⟩
          ·cases h
         ·cases h
        ·cases h
      ·cases h
     ·split at h
      ·rename_i hf
       cases h
       obtain ⟨e1,e2,e3⟩:=alone hf hv
       rw [e2]
       have hcs:(V.agg cs).cells=cs:=rfl
       rw [hcs] at e3 hlen ⊢
       rw [e1] at hlen
       simp only [lH,e3,ah]
       obtain ⟨q1,q2⟩:=mX (xs:=[v]) h4 hlen
       simp only [List.length_cons,List.length_nil,Nat.zero_add] at q1 q2
       refine ⟨b,_,hb,rfl,by rw [kU hlen];exact h3,⟨off,_,rfl,⟨v,by rw [gJ hlen,if_pos rfl],hv⟩,q1⟩,fun i hi hn=>?_⟩
       simp only [List.mem_cons,not_or] at hn
       rw [gJ hlen,if_neg hn.1]
       exact h5 i hi fun hm=>by
        have:=q2 i hn.2 hm
        omega
      ·cases h
    ·cases h
   ·cases h
 ·cases h
end Go.Tx
