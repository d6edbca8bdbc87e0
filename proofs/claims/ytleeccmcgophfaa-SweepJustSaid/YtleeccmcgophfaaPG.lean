import Derived.Test.YtleeccmcgophfaaPF
import Derived.Test.YtleeccmcgophfaaPC
import Derived.Test.YtleeccmcgophfaaPD
import Derived.RangeFuncNested
set_option linter.all false
namespace Go.Tx
open Go Go.Ab
def uK (gs:List E) (z:SV):SV:=match z with
 | .gd hs x=>match hs.filter (fun h=>!(gs.any (fun g=>g.same h))) with
  | []=>x
  | hs'=>.gd hs' x
 | z=>z
def FC (Γ:List Ty):SV→Bool
 | .e t x=>decide (tyE Γ x=some t)
 | .ref t x _=>decide (tyE Γ x=some t)
 | .own _ _ t x=>decide (tyE Γ x=some (.sl t))
 | _=>true
def Xy (n0:Nat) (bs:Bs) (z:SV):Bs×SV:=match z with
 | .e t x=>if 24<x.size then (bs++[(.lets x,t)],.e t (.var (n0+bs.length))) else (bs,z)
 | z=>(bs,z)
def opS (P:Program) (tb:Tab) (p:Name) (y:Sy) (o:Oper):Option (Bs×Sy) :=
 match Ud P tb y y.get o.op with
 | some (bs,z)=>some ((Xy y.g.length bs z).1,(y.more ((Xy y.g.length bs z).1.map (·.2))).put o.dst (Xy y.g.length bs z).2)
 | none=>match stOp P p y o with
  | some r=>some r
  | none=>PU P p y o
def opG (P:Program) (tb:Tab) (y:Sy) (o:Oper) (gs:List E):Option (Bs×Sy) :=
 match Ud P tb y (fun x=>(y.get x).map (uK gs)) o.op with
 | some (bs,z)=>if FC (y.g++bs.map (·.2)) z=true then some (bs.map (fun b=>(.ifb gs b.1 b.2,b.2)),(y.more (bs.map (·.2))).put o.dst (.gd gs z)) else none
 | none=>match Uf P y (fun x=>(y.get x).map (uK gs)) o.op with
  | some (bs,z)=>if FC (y.g++bs.map (·.2)) z=true then some (bs.map (fun b=>(.ifb gs b.1 b.2,b.2)),(y.more (bs.map (·.2))).put o.dst (.gd gs z)) else none
  | none=>none
def zL (n:Nat):Option Tmp→Bool
 | some d=>decide (d<n)
 | none=>true
def FD (P:Program) (tb:Tab) (p:Name) (ops:Array Oper) (y:Sy) (o:Oper):Option (Bs×Sy) :=
 if zL y.n o.dst=true then (match o.guard with
  | none=>opS P tb p y o
  | some (j,want)=>match (ops[j]?).bind (·.dst) with
   | some t=>match lkS t y.ts with
    | .e .bool (.bool b)=>if b=want then opS P tb p y o else some ([],y.put o.dst (.tup []))
    | .e .bool c=>opG P tb y o [if want then c else .p1 .not c]
    | .gd gs (.e .bool c)=>opG P tb y o (gs++[if want then c else .p1 .not c])
    | .tup []=>some ([],y.put o.dst (.tup []))
    | _=>none
   | none=>none) else none
section
variable {P:Program} {S:tV} {env:List Val} {y:Sy} {s:Sa} {p:Name} {o:Oper} {k:Sa→Prop} {tb:Tab}
theorem FH {gs:List E} (h:holds env gs=some true):∀ g∈gs,g.val env=some ⟨.bool,true⟩:=by
 induction gs with
 | nil=>simp
 | cons g gs ih =>
  simp only [holds] at h
  split at h
  ·rename_i b r h1 h2
   simp only [Option.some.injEq,Bool.and_eq_true] at h
   obtain ⟨rfl,rfl⟩:=h
   intro x hx
   rcases List.mem_cons.1 hx with rfl | hx
   ·exact h1
   ·exact ih h2 x hx
  ·cases h
theorem vH {gs:List E} (h:holds env gs=some true):∀ {hs:List E} {b:Bool},holds env hs=some b→holds env (hs.filter (fun h=>!(gs.any (fun g=>g.same h))))=some b
 | [],b,e=>e
 | x::hs,b,e=>by
  simp only [holds] at e
  split at e
  ·rename_i c r h1 h2
   cases e
   have ih:=vH h h2
   simp only [List.filter_cons]
   split
   ·simp only [holds,h1,ih]
   ·rename_i hn
    simp only [Bool.not_eq_true',Bool.not_eq_false] at hn
    obtain ⟨g,hg,hs'⟩:=List.any_eq_true.1 hn
    have:=E.same_eq hs'
    subst this
    have h3:=FH h g hg
    rw [h1] at h3;cases h3
    simpa using ih
  ·cases e
theorem AB {gs:List E} (h:holds env gs=some true) {z:SV} {v:V} (hv:ah env z v):ah env (uK gs z) v:=by
 unfold uK
 split
 ·rename_i hs x
  have hv':=hv
  simp only [ah] at hv
  obtain ⟨b,h1,h2,h3,h4⟩:=hv
  have hf:=vH h h1
  split
  ·rename_i he
   rw [he] at hf
   simp only [holds] at hf;cases hf
   exact h3 rfl
  ·simp only [ah]
   exact ⟨b,hf,h2,h3,h4⟩
 ·exact hv
theorem FI {Γ:List Ty} (hg:env.map (·.1)=Γ) {z:SV} (h:FC Γ z=true):typed env z:=by
 cases z <;> simp only [FC,decide_eq_true_eq] at h <;> simp only [typed]
 ·exact OO hg h
 ·exact OO hg h
 ·exact OO hg h
theorem Inst.ext {env l:List Val} {ts:List Ty} (hI:Inst env y s) (h:l.map (·.1)=ts):Inst (env++l) (y.more ts) s:=by
 subst h;exact hI.app l
theorem ZA {CS:Calls'} {bs:Bs} {z:SV} (hI:Inst env y s) (h:iP CS bs env fun e=>∀ s',Inst e ((y.more (bs.map (·.2))).put o.dst z) s' → k s'):iP CS bs env (Nx o s k z):=by
 refine bJ ?_ (sO h)
 rintro e ⟨⟨l,e1,e2⟩,hq⟩ v hv
 subst e1
 exact hq _ ((hI.ext e2).put o.dst hv)
theorem Xz {CS:Calls'} {bs:Bs} {z:SV} (hI:Inst env y s) (h:iP CS (Xy y.g.length bs z).1 env fun e=>∀ s',Inst e ((y.more ((Xy y.g.length bs z).1.map (·.2))).put o.dst (Xy y.g.length bs z).2) s' → k s') :
  iP CS bs env (Nx o s k z):=by
 unfold Xy at h
 split at h
 ·rename_i t x
  split at h
  ·rw [qc] at h
   refine bJ ?_ (sO h)
   rintro e ⟨⟨l,e1,e2⟩,hq⟩ v hv
   subst e1
   simp only [iP] at hq
   obtain ⟨w,w1,w2,w3⟩:=hq
   simp only [ah] at hv
   obtain ⟨a,h1,rfl⟩:=hv
   have w2' : x.val (env++l)=some w:=w2
   rw [h1] at w2'
   cases w2'
   rw [List.append_assoc] at w3
   refine w3 _ ((hI.ext (l:=l++[⟨t,a⟩]) (by simp [e2])).put o.dst ?_)
   simp only [ah]
   refine ⟨a,?_,rfl⟩
   rw [← List.append_assoc]
   refine qh ?_
   have:=congrArg List.length e2
   simp only [List.length_map] at this
   rw [List.length_append,hI.len,this]
  ·exact ZA hI h
 ·exact ZA hI h
theorem VF (hS:Ij P S) (hI:Inst env y s) (hw:bW env) (hd:∀ d,o.dst=some d→d<s.n) {bs:Bs} {y' : Sy} (h:opS P tb p y o=some (bs,y')) (hb:iP (dF P) bs env fun e=>∀ s',Inst e y' s' → k s'):aP P S p o s k:=by
 unfold opS at h
 split at h
 ·rename_i bs' z hv
  cases h
  exact JG hS (fun o x hx=>hI.get hx) hI hw hd hv (Xz hI hb)
 ·split at h
  ·rename_i r hst
   cases h
   exact Xw hI hst hb
  ·exact Uh hI hw h hb
theorem PV {CS:Calls'} {gs:List E}:∀ {bs:Bs} {env:List Val} {Q:List Val→Prop} {c:Bool},holds env gs=some c→iP CS (bs.map fun b=>(B.ifb gs b.1 b.2,b.2)) env Q →
  (c=true→iP CS bs env Q)∧(c=false→∃ l:List Val,l.map (·.1)=bs.map (·.2)∧Q (env++l))
 | [],env,Q,c,hc,h=>⟨fun _=>h,fun _=>⟨[],rfl,by rw [List.append_nil];exact h⟩⟩
 | b::bs,env,Q,c,hc,h=>by
  simp only [List.map_cons,iP] at h
  obtain ⟨v,v1,⟨c',v2,v3,v4⟩,v5⟩:=h
  rw [hc] at v2;cases v2
  have ih:=PV (oH [v] hc) v5
  refine ⟨fun e=>⟨v,v1,(v3 e).1,ih.1 e⟩,fun e=>?_⟩
  obtain ⟨l,l1,l2⟩:=ih.2 e
  exact ⟨v::l,by simp [v1,l1],by simpa using l2⟩
theorem VG (hS:Ij P S) (hI:Inst env y s) (hw:bW env) (hd:∀ d,o.dst=some d→d<s.n) {gs:List E} {c:Bool} (hc:holds env gs=some c) {bs:Bs} {y' : Sy} (h:opG P tb y o gs=some (bs,y')) (hb:iP (dF P) bs env fun e=>∀ s',Inst e y' s' → k s') :
  (c=true→aP P S p o s k)∧(c=false→k (s.put o.dst (.tup []))):=by
 have gg:c=true→∀ o x,((y.get o).map (uK gs))=some x→ah env x (s.get o):=fun e o x hx=>by
  subst e
  obtain ⟨x',g1,rfl⟩:=Option.map_eq_some_iff.1 hx
  exact AB hc (hI.get g1)
 have key:∀ {bs0:Bs} {z:SV},FC (y.g++bs0.map (·.2)) z=true→iP (dF P) (bs0.map (fun b=>(.ifb gs b.1 b.2,b.2))) env (fun e=>∀ s',Inst e ((y.more (bs0.map (·.2))).put o.dst (.gd gs z)) s' → k s') →
   (c=true→iP (dF P) bs0 env (Nx o s k z))∧(c=false→k (s.put o.dst (.tup []))):=by
  intro bs0 z ht hb
  obtain ⟨h1,h2⟩:=PV hc hb
  refine ⟨fun e=>?_,fun e=>?_⟩
  ·subst e
   refine bJ ?_ (sO (h1 rfl))
   rintro e ⟨⟨l,e1,e2⟩,hq⟩ v hv
   subst e1
   have h3:=hI.ext e2
   refine hq _ (h3.put o.dst ?_)
   simp only [ah]
   exact ⟨true,oH l hc,FI h3.g ht,fun _=>hv,fun e=>nomatch e⟩
  ·subst e
   obtain ⟨l,l1,l2⟩:=h2 rfl
   have h3:=hI.ext l1
   refine l2 _ (h3.put o.dst ?_)
   simp only [ah]
   exact ⟨false,oH l hc,FI h3.g ht,fun e=>(nomatch e),fun _=>trivial⟩
 unfold opG at h
 split at h
 ·rename_i bs' z hv
  split at h
  ·rename_i ht
   cases h
   obtain ⟨k1,k2⟩:=key ht hb
   exact ⟨fun e=>JG hS (gg e) hI hw hd hv (k1 e),k2⟩
  ·cases h
 ·split at h
  ·rename_i bs' z hv
   split at h
   ·rename_i ht
    cases h
    obtain ⟨k1,k2⟩:=key ht hb
    exact ⟨fun e=>JJ (gg e) hI hv (k1 e),k2⟩
   ·cases h
  ·cases h
theorem FK {t:Nat} {v:V}:∀ {l:List (Nat×V)},lkT t l=v→v ≠ .dead→GI t v l=l
 | [],h,hn=>absurd h.symm hn
 | (a,b)::l,h,hn=>by
  simp only [lkT] at h
  simp only [GI]
  split at h
  ·rename_i e;rw [if_pos e,h]
  ·rename_i e;rw [if_neg e,FK h hn]
theorem mY {t:Nat} {v:V} (h:lkT t s.ts=v) (hn:v ≠ .dead):s.put (some t) v=s:=by
 simp only [Sa.put,FK h hn]
theorem AL {gs:List E} {g:E} {b c:Bool} (h1:holds env gs=some b) (h2:g.val env=some ⟨.bool,c⟩):holds env (gs++[g])=some (b&&c):=by
 induction gs generalizing b with
 | nil=>cases h1;simp [holds,h2]
 | cons x gs ih =>
  simp only [holds] at h1
  split at h1
  ·rename_i d r e1 e2
   cases h1
   simp only [List.cons_append,holds,e1,ih e2,Bool.and_assoc]
  ·cases h1
theorem oO {c:E} {b:Bool} (want:Bool) (h:c.val env=some ⟨.bool,b⟩):(if want=true then c else .p1 .not c).val env=some ⟨.bool,b==want⟩:=by
 cases want with
 | true=>simp [h]
 | false=>cases b <;> simp [E.val,app1,h,jU]
theorem CZ (hS:Ij P S) {ops:Array Oper} {rest:List Oper} (hI:Inst env y s) (hw:bW env) {bs:Bs} {y' : Sy} (h:FD P tb p ops y o=some (bs,y'))
  (hb:iP (dF P) bs env fun e=>∀ s',Inst e y' s' → bP P S p ops rest s' k):bP P S p ops (o::rest) s k:=by
 unfold FD at h
 split at h
 ·rename_i hdst
  have hd:match o.dst with | some d=>d<s.n | none=>True:=by
   cases hdd:o.dst with
   | none=>trivial
   | some d=>rw [hdd] at hdst;simp only [zL,decide_eq_true_eq] at hdst;show d<s.n;rw [hI.n];exact hdst
  have hd' : ∀ d,o.dst=some d→d<s.n:=fun d e=>by rw [e] at hd;exact hd
  simp only [bP]
  refine ⟨hd,?_⟩
  split at h
  ·rename_i hg
   simp only [hg]
   exact VF hS hI hw hd' h hb
  ·rename_i j want hg
   simp only [hg]
   split at h
   ·rename_i t ht
    simp only [ht]
    have hlk:=hI.ts.lk (t:=t)
    have known:∀ {c:E} {b:Bool} {gs:List E} {r:Bool},c.val env=some ⟨.bool,b⟩→lkT t s.ts = .d (.v (.bool b))→holds env gs=some (r&&(b==want))→r=true→opG P tb y o gs=some (bs,y') →
      BD b (let s1:=s.put (some t) (.d (.v (.bool true)));if want=true then aP P S p o s1 (fun s'=>bP P S p ops rest s' k) else bP P S p ops rest (s1.put o.dst (.tup [])) k)
       (let s1:=s.put (some t) (.d (.v (.bool false)));if want=true then bP P S p ops rest (s1.put o.dst (.tup [])) k else aP P S p o s1 (fun s'=>bP P S p ops rest s' k)):=by
     intro c b gs r hc hl hh hr ho
     subst hr
     rw [Bool.true_and] at hh
     obtain ⟨h1,h2⟩:=VG (k:=fun s'=>bP P S p ops rest s' k) (p:=p) hS hI hw hd' hh ho hb
     cases b with
     | true =>
      simp only [iQ]
      rw [mY hl (by simp)]
      cases want with
      | true=>exact h1 rfl
      | false=>exact h2 rfl
     | false =>
      simp only [gK]
      rw [mY hl (by simp)]
      cases want with
      | true=>exact h2 rfl
      | false=>exact h1 rfl
    split at h
    ·rename_i b hb0
     rw [hb0] at hlk
     simp only [ah] at hlk
     obtain ⟨a,h1,h2⟩:=hlk
     cases h1
     rw [h2,dL]
     simp only
     have hp:=mY (s:=s) h2 (by simp)
     rw [dL] at hp
     split at h
     ·rename_i e
      subst e
      have:=VF (k:=fun s'=>bP P S p ops rest s' k) (p:=p) hS hI hw hd' h hb
      cases b with
      | true=>simp only [iQ,if_true];rw [hp];exact this
      | false=>simp only [gK,Bool.false_eq_true,if_false];rw [hp];exact this
     ·rename_i e
      cases h
      have:=hb _ (hI.put o.dst (show ah env (.tup []) (.tup []) from ⟨[],rfl,rfl⟩))
      cases b with
      | true =>
       have hw' : want=false:=by cases want <;> simp_all
       simp only [iQ,hw',Bool.false_eq_true,if_false];rw [hp];exact this
      | false =>
       have hw' : want=true:=by cases want <;> simp_all
       simp only [gK,hw',if_true];rw [hp];exact this
    ·rename_i c _ hb0
     rw [hb0] at hlk
     simp only [ah] at hlk
     obtain ⟨b,h1,h2⟩:=hlk
     rw [h2,dL]
     simp only
     rw [dL] at h2
     exact known (r:=true) h1 h2 (by rw [holds_one (oO want h1),Bool.true_and]) rfl h
    ·rename_i gs c hb0
     rw [hb0] at hlk
     simp only [ah,typed] at hlk
     obtain ⟨r,h1,⟨b,h2⟩,h3,h4⟩:=hlk
     cases r with
     | true =>
      obtain ⟨b',h5,h6⟩:=h3 rfl
      rw [h2] at h5;cases h5
      rw [h6,dL]
      simp only
      rw [dL] at h6
      exact known (r:=true) h2 h6 (AL h1 (oO want h2)) rfl h
     | false =>
      rw [h4 rfl]
      simp only
      have hh:=AL h1 (oO want h2)
      rw [Bool.false_and] at hh
      exact (VG (k:=fun s'=>bP P S p ops rest s' k) (p:=p) hS hI hw hd' hh h hb).2 rfl
    ·rename_i hb0
     rw [hb0] at hlk
     simp only [ah,aB] at hlk
     obtain ⟨cc,h1,h2⟩:=hlk
     subst h2
     cases h
     rw [h1]
     simp only
     exact hb _ (hI.put o.dst (show ah env (.tup []) (.tup []) from ⟨[],rfl,rfl⟩))
    ·cases h
   ·cases h
 ·cases h
end
end Go.Tx
namespace Go.Tx
open Go Go.Ab
def AO:List E→List E→Bool
 | [],[]=>true
 | x::xs,y::ys=>x.same y&&AO xs ys
 | _,_=>false
theorem FM:∀ {xs ys:List E},AO xs ys=true→xs=ys
 | [],[],_=>rfl
 | x::xs,y::ys,h=>by
  simp only [AO,Bool.and_eq_true] at h
  rw [E.same_eq h.1,FM h.2]
 | [],_::_,h=>by simp [AO] at h
 | _::_,[],h=>by simp [AO] at h
mutual
def SV.same:SV→SV→Bool
 | .e t x,.e u y=>x.same y&&decide (t=u)
 | .nil,.nil=>true
 | .own i a t x,.own j b u y=>decide (i=j)&&Nat.beq a b&&x.same y&&decide (t=u)
 | .ptr n o,.ptr m p=>decide (n=m)&&Nat.beq o p
 | .aptr n o m t i a,.aptr n' o' m' t' i' a'=>decide (n=n')&&Nat.beq o o' && Nat.beq m m' && decide (t=t')&&i.same i' && Nat.beq a a'
 | .ref t x o,.ref u y p=>x.same y&&Nat.beq o p&&decide (t=u)
 | .fn f c,.fn g d=>Nat.beq f g&&SV.C9 c d
 | .yld l,.yld m=>decide (l=m)
 | .mref l,.mref m=>decide (l=m)
 | .mpc k t x,.mpc q u y=>decide (k=q)&&x.same y&&decide (t=u)
 | .agg c,.agg d=>SV.C9 c d
 | .mix t x os zs,.mix u y ps ws=>x.same y&&decide (os=ps)&&decide (t=u)&&SV.C9 zs ws
 | .tup c,.tup d=>SV.C9 c d
 | .gd gs x,.gd hs y=>AO gs hs&&SV.same x y
 | .vsl n,.vsl m=>decide (n=m)
 | .vpt n t i a,.vpt m u j b=>decide (n=m)&&decide (t=u)&&i.same j&&Nat.beq a b
 | .dead,.dead=>true
 | _,_=>false
def SV.C9:List SV→List SV→Bool
 | [],[]=>true
 | x::xs,y::ys=>SV.same x y&&SV.C9 xs ys
 | _,_=>false
end
mutual
theorem SV.same_eq:∀ (x:SV) {y:SV},x.same y=true→x=y:=by
 intro x y h
 cases x with
 | e t x=>cases y <;> simp only [SV.same,Bool.false_eq_true,Bool.and_eq_true,decide_eq_true_eq] at h;rw [E.same_eq h.1,h.2]
 | nil=>cases y <;> first | rfl | (simp only [SV.same,Bool.false_eq_true] at h)
 | own i a t x=>cases y <;> simp only [SV.same,Bool.false_eq_true,Bool.and_eq_true,decide_eq_true_eq] at h;rw [h.1.1.1,Nat.eq_of_beq_eq_true h.1.1.2,E.same_eq h.1.2,h.2]
 | ptr n o=>cases y <;> simp only [SV.same,Bool.false_eq_true,Bool.and_eq_true,decide_eq_true_eq] at h;rw [h.1,Nat.eq_of_beq_eq_true h.2]
 | aptr n o m t i a =>
  cases y <;> simp only [SV.same,Bool.false_eq_true,Bool.and_eq_true,decide_eq_true_eq] at h
  obtain ⟨⟨⟨⟨⟨h1,h2⟩,h3⟩,h4⟩,h5⟩,h6⟩:=h
  rw [h1,Nat.eq_of_beq_eq_true h2,Nat.eq_of_beq_eq_true h3,h4,E.same_eq h5,Nat.eq_of_beq_eq_true h6]
 | ref t x o=>cases y <;> simp only [SV.same,Bool.false_eq_true,Bool.and_eq_true,decide_eq_true_eq] at h;rw [E.same_eq h.1.1,Nat.eq_of_beq_eq_true h.1.2,h.2]
 | fn f c=>cases y <;> simp only [SV.same,Bool.false_eq_true,Bool.and_eq_true] at h;rw [Nat.eq_of_beq_eq_true h.1,SV.sS c h.2]
 | yld l=>cases y <;> simp only [SV.same,Bool.false_eq_true,decide_eq_true_eq] at h;rw [h]
 | vsl l=>cases y <;> simp only [SV.same,Bool.false_eq_true,decide_eq_true_eq] at h;rw [h]
 | vpt n t i a =>
  cases y <;> simp only [SV.same,Bool.false_eq_true,Bool.and_eq_true,decide_eq_true_eq] at h
  obtain ⟨⟨⟨h1,h2⟩,h3⟩,h4⟩:=h
  rw [h1,h2,E.same_eq h3,Nat.eq_of_beq_eq_true h4]
 | mref l=>cases y <;> simp only [SV.same,Bool.false_eq_true,decide_eq_true_eq] at h;rw [h]
 | mpc k t x=>cases y <;> simp only [SV.same,Bool.false_eq_true,Bool.and_eq_true,decide_eq_true_eq] at h;rw [h.1.1,E.same_eq h.1.2,h.2]
 | agg c=>cases y <;> simp only [SV.same,Bool.false_eq_true] at h;rw [SV.sS c h]
 | mix t x os zs=>cases y <;> simp only [SV.same,Bool.false_eq_true,Bool.and_eq_true,decide_eq_true_eq] at h;rw [E.same_eq h.1.1.1,h.1.1.2,h.1.2,SV.sS zs h.2]
 | tup c=>cases y <;> simp only [SV.same,Bool.false_eq_true] at h;rw [SV.sS c h]
 | kd c=>cases y <;> simp only [SV.same,Bool.false_eq_true] at h
 | gd gs x=>cases y <;> simp only [SV.same,Bool.false_eq_true,Bool.and_eq_true] at h;rw [FM h.1,SV.same_eq x h.2]
 | dead=>cases y <;> first | rfl | (simp only [SV.same,Bool.false_eq_true] at h)
theorem SV.sS:∀ (xs:List SV) {ys:List SV},SV.C9 xs ys=true→xs=ys:=by
 intro xs ys h
 cases xs with
 | nil=>cases ys <;> first | rfl | (simp only [SV.C9,Bool.false_eq_true] at h)
 | cons x xs =>
  cases ys with
  | nil=>simp only [SV.C9,Bool.false_eq_true] at h
  | cons y ys=>simp only [SV.C9,Bool.and_eq_true] at h;rw [SV.same_eq x h.1,SV.sS xs h.2]
end
def aa7 (n:Nat) (gs:List E):Bool:=gs.all (·.lt n)
mutual
def SV.lt (n:Nat):SV→Bool
 | .e _ x=>x.lt n
 | .own _ _ _ x=>x.lt n
 | .aptr _ _ _ _ i _=>i.lt n
 | .vpt _ _ i _=>i.lt n
 | .ref _ x _=>x.lt n
 | .fn _ c=>SV.ltL n c
 | .mpc _ _ x=>x.lt n
 | .agg c=>SV.ltL n c
 | .mix _ x _ zs=>x.lt n&&SV.ltL n zs
 | .tup c=>SV.ltL n c
 | .gd gs x=>aa7 n gs&&SV.lt n x
 | _=>true
def SV.ltL (n:Nat):List SV→Bool
 | []=>true
 | x::xs=>SV.lt n x&&SV.ltL n xs
end
theorem JK {env:List Val} (l:List Val):∀ {gs:List E},aa7 env.length gs=true→holds (env++l) gs=holds env gs
 | [],_=>rfl
 | g::gs,h=>by
  simp only [aa7,List.all_cons,Bool.and_eq_true] at h
  simp only [holds,E.oC l h.1,JK l (gs:=gs) h.2]
theorem Ui {env:List Val} (l:List Val) {x:SV} (h:SV.lt env.length x=true) (ht:typed (env++l) x):typed env x:=by
 cases x <;> simp only [typed,SV.lt] at h ht ⊢
 all_goals (rw [E.oC l h] at ht;exact ht)
mutual
theorem ah.lt {env:List Val} (l:List Val):∀ {x:SV} {v:V},x.lt env.length=true→ah (env++l) x v→ah env x v
 | .e t x,v,h,hv=>by simp only [ah,SV.lt] at h hv ⊢; rw [E.oC l h] at hv;exact hv
 | .nil,v,h,hv=>hv
 | .own id sz t x,v,h,hv=>by simp only [ah,SV.lt] at h hv ⊢; rw [E.oC l h] at hv;exact hv
 | .ptr n off,v,h,hv=>hv
 | .aptr n off m t i inn,v,h,hv=>by simp only [ah,SV.lt] at h hv ⊢; rw [E.oC l h] at hv;exact hv
 | .ref t x off,v,h,hv=>by simp only [ah,SV.lt] at h hv ⊢; rw [E.oC l h] at hv;exact hv
 | .fn f cap,v,h,hv=>by simp only [ah,SV.lt] at h hv ⊢; obtain ⟨c,h1,h2⟩:=hv;exact ⟨c,h1,aB.lt l h h2⟩
 | .yld n,v,h,hv=>hv
 | .vsl n,v,h,hv=>hv
 | .vpt n t i inn,v,h,hv=>by simp only [ah,SV.lt] at h hv ⊢; rw [E.oC l h] at hv;exact hv
 | .mref n,v,h,hv=>hv
 | .mpc k t x,v,h,hv=>by simp only [ah,SV.lt] at h hv ⊢; rw [E.oC l h] at hv;exact hv
 | .agg cs,v,h,hv=>by simp only [ah,SV.lt] at h hv ⊢; obtain ⟨c,h1,h2⟩:=hv;exact ⟨c,h1,aB.lt l h h2⟩
 | .mix t x os zs,v,h,hv=>by
  simp only [ah,SV.lt,Bool.and_eq_true] at h hv ⊢
  rw [E.oC l h.1] at hv
  obtain ⟨a,c,h1,h2,h3,h4,h5⟩:=hv
  exact ⟨a,c,h1,h2,h3,aV.lt l h.2 h4,h5⟩
 | .tup cs,v,h,hv=>by simp only [ah,SV.lt] at h hv ⊢; obtain ⟨c,h1,h2⟩:=hv;exact ⟨c,h1,aB.lt l h h2⟩
 | .kd cs,v,h,hv=>hv
 | .gd gs x,v,h,hv=>by
  simp only [ah,SV.lt,Bool.and_eq_true] at h hv ⊢
  rw [JK l h.1] at hv
  obtain ⟨b,h1,h0,h2,h3⟩:=hv
  exact ⟨b,h1,Ui l h.2 h0,fun e=>ah.lt l h.2 (h2 e),h3⟩
 | .dead,v,h,hv=>hv
theorem aB.lt {env:List Val} (l:List Val):∀ {xs:List SV} {vs:List V},SV.ltL env.length xs=true→aB (env++l) xs vs→aB env xs vs
 | [],vs,h,hv=>hv
 | x::xs,vs,h,hv=>by
  simp only [aB,SV.ltL,Bool.and_eq_true] at h hv ⊢
  obtain ⟨v,vs',h1,h2,h3⟩:=hv
  exact ⟨v,vs',h1,ah.lt l h.1 h2,aB.lt l h.2 h3⟩
theorem aV.lt {env:List Val} (l:List Val):∀ {zs:List SV} {os:List Nat} {c:List V},SV.ltL env.length zs=true→aV (env++l) os zs c→aV env os zs c
 | [],os,c,h,hv=>hv
 | z::zs,os,c,h,hv=>by
  simp only [aV,SV.ltL,Bool.and_eq_true] at h hv ⊢
  obtain ⟨i,os',h1,⟨v,h2,h3⟩,h4⟩:=hv
  exact ⟨i,os',h1,⟨v,h2,ah.lt l h.1 h3⟩,aV.lt l h.2 h4⟩
end
end Go.Tx
namespace Go.Tx
open Go Go.Ab
mutual
def SV.soft (i:Name) (u:Ty) (q:E):SV→SV
 | .own j sz t x=>if j=i then .e (.sl t) x else .own j sz t x
 | .vsl n=>if n=i then .own i u.size u q else .vsl n
 | .vpt n t x inn=>if n=i then .dead else .vpt n t x inn
 | .fn f c=>.fn f (SV.jk i u q c)
 | .agg c=>.agg (SV.jk i u q c)
 | .mix t x os zs=>.mix t x os (SV.jk i u q zs)
 | .tup c=>.tup (SV.jk i u q c)
 | .gd gs x=>.gd gs (SV.soft i u q x)
 | x=>x
def SV.jk (i:Name) (u:Ty) (q:E):List SV→List SV
 | []=>[]
 | v::vs=>SV.soft i u q v::SV.jk i u q vs
end
def Sy.soft (i:Name) (y:Sy):Sy:=match aj i y.vc with
 | some (u,q)=>{ y with ts:=y.ts.map fun z=>(z.1,z.2.soft i u q),sv:=y.sv.map (fun (f:SFr)=>{ f with ts:=f.ts.map fun z=>(z.1,z.2.soft i u q) }),bx:=y.bx.map (fun x=>(x.1,x.2.soft i u q)),vc:=y.vc.filter (fun x=>x.1 != i) }
 | none=>y
section
variable {env:List Val} {u:Ty} {q:E} {a:List u.den}
theorem MG (hq:q.val env=some ⟨.sl u,a⟩) {i:Name} {x:SV} (h:typed env x):typed env (SV.soft i u q x):=by
 cases x <;> simp only [SV.soft] <;> try exact h
 ·split
  ·simp only [typed] at h ⊢; exact h
  ·exact h
 ·split
  ·exact ⟨a,hq⟩
  ·simp [typed]
 ·split <;> simp [typed]
mutual
theorem ah.soft (hq:q.val env=some ⟨.sl u,a⟩) (i:Name):∀ {x:SV} {v:V},ah env x v→ah env (x.soft i u q) (v.soft i u.size (a.map (bD u)))
 | .e t x,v,h=>by simp only [ah,SV.soft] at h ⊢; obtain ⟨a,h1,rfl⟩:=h;exact ⟨a,h1,rfl⟩
 | .nil,v,h=>by simp only [ah] at h;subst h;simp [SV.soft,V.soft,ah]
 | .own j sz t x,v,h=>by
  simp only [ah] at h
  obtain ⟨a,h1,h2,rfl⟩:=h
  simp only [SV.soft,V.soft]
  split
  ·simp only [ah];exact ⟨a,h1,rfl⟩
  ·simp only [ah];exact ⟨a,h1,h2,rfl⟩
 | .ptr n off,v,h=>by simp only [ah] at h;subst h;simp [SV.soft,V.soft,ah]
 | .aptr n off m t e inn,v,h=>by simp only [ah,SV.soft] at h ⊢; obtain ⟨k,j,h1,h2,h3,rfl⟩:=h;exact ⟨k,j,h1,h2,h3,rfl⟩
 | .ref t x off,v,h=>by simp only [ah,SV.soft] at h ⊢; obtain ⟨a,cs,h1,rfl,h2⟩:=h;exact ⟨a,cs,h1,rfl,h2⟩
 | .fn f cap,v,h=>by simp only [ah,SV.soft] at h ⊢; obtain ⟨c,rfl,h2⟩:=h;exact ⟨_,rfl,aB.soft hq i h2⟩
 | .yld l,v,h=>by simp only [ah] at h;subst h;simp [SV.soft,V.soft,ah]
 | .mref n,v,h=>by simp only [ah] at h;subst h;simp [SV.soft,V.soft,ah]
 | .mpc k t x,v,h=>by simp only [ah,SV.soft] at h ⊢; obtain ⟨a,kvs,h1,rfl,h2⟩:=h;exact ⟨a,kvs,h1,rfl,h2⟩
 | .agg cs,v,h=>by simp only [ah,SV.soft] at h ⊢; obtain ⟨c,rfl,h2⟩:=h;exact ⟨_,rfl,aB.soft hq i h2⟩
 | .mix t x os zs,v,h=>by
  simp only [ah,SV.soft] at h ⊢
  obtain ⟨b,c,h1,rfl,h3,h4,h5⟩:=h
  refine ⟨b,V.jk i u.size (a.map (bD u)) c,h1,rfl,by rw [V.gu,List.length_map];exact h3,aV.soft hq i h4,fun j hj hn=>?_⟩
  rw [V.gu,List.getElem?_map,h5 j hj hn]
  cases (enc t b)[j]? <;> rfl
 | .tup cs,v,h=>by simp only [ah,SV.soft] at h ⊢; obtain ⟨c,rfl,h2⟩:=h;exact ⟨_,rfl,aB.soft hq i h2⟩
 | .kd cs,v,h=>by simp only [ah] at h;subst h;simp [SV.soft,V.soft,ah]
 | .gd gs x,v,h=>by
  simp only [ah,SV.soft] at h ⊢
  obtain ⟨b,h1,h0,h2,h3⟩:=h
  refine ⟨b,h1,MG hq h0,fun e=>ah.soft hq i (h2 e),fun e=>?_⟩
  rw [h3 e];rfl
 | .vsl n,v,h=>by
  simp only [ah] at h;subst h
  simp only [SV.soft,V.soft]
  split
  ·simp only [ah];exact ⟨a,hq,trivial,rfl⟩
  ·simp [ah]
 | .vpt n t x inn,v,h=>by
  simp only [ah] at h
  obtain ⟨k,j,h1,h2,rfl⟩:=h
  simp only [SV.soft,V.soft]
  split
  ·simp [ah]
  ·simp only [ah];exact ⟨k,j,h1,h2,rfl⟩
 | .dead,v,h=>by simp only [ah] at h;subst h;simp [SV.soft,V.soft,ah]
theorem aB.soft (hq:q.val env=some ⟨.sl u,a⟩) (i:Name):∀ {xs:List SV} {vs:List V},aB env xs vs→aB env (SV.jk i u q xs) (V.jk i u.size (a.map (bD u)) vs)
 | [],vs,h=>by simp only [aB] at h;subst h;simp [SV.jk,V.jk,aB]
 | x::xs,vs,h=>by
  simp only [aB] at h
  obtain ⟨v,vs',rfl,h2,h3⟩:=h
  simp only [SV.jk,V.jk,aB]
  exact ⟨_,_,rfl,ah.soft hq i h2,aB.soft hq i h3⟩
theorem aV.soft (hq:q.val env=some ⟨.sl u,a⟩) (i:Name):∀ {zs:List SV} {os:List Nat} {c:List V},aV env os zs c→aV env os (SV.jk i u q zs) (V.jk i u.size (a.map (bD u)) c)
 | [],os,c,h=>h
 | z::zs,os,c,h=>by
  simp only [aV,SV.jk] at h ⊢
  obtain ⟨j,os',h1,⟨v,h2,h3⟩,h4⟩:=h
  exact ⟨j,os',h1,⟨v.soft i u.size (a.map (bD u)),by rw [V.gu,List.getElem?_map,h2];rfl,ah.soft hq i h3⟩,aV.soft hq i h4⟩
end
end
theorem Inst.soft {env:List Val} {y:Sy} {s:Sa} (h:Inst env y s) (i:Name):Inst env (y.soft i) (s.soft i):=by
 unfold Sy.soft Sa.soft
 cases hl:aj i y.vc with
 | none=>rw [(h.vc.look).2 hl];exact h
 | some c =>
  obtain ⟨u,q⟩:=c
  obtain ⟨a,h1,h2⟩:=(h.vc.look).1 hl
  rw [h2]
  exact ⟨h.g,h.rd,h.n,h.ts.map (fun _ _ h=>ah.soft h1 i h),h.sv.map (fun _ _ h=>ah.soft h1 i h),h.bx.map (fun _ _ h=>ah.soft h1 i h),h.lp,h.ow,h.vc.filter (q:=fun j=>j != i)⟩
theorem Sy.Ik {i:Name} {y:Sy}:(y.soft i).lp=y.lp:=by unfold Sy.soft;split <;> rfl
theorem Sy.VH {i:Name} {y:Sy}:(y.soft i).g=y.g:=by unfold Sy.soft;split <;> rfl
def PW (ids:List Name) (y:Sy):Sy:=ids.foldl (fun y i=>y.soft i) y
end Go.Tx
namespace Go.Tx
open Go Go.Ab
def VI (n0:Nat) (args:List E) (x:E):E→Bool
 | .var i=>Nat.ble n0 i&&(match args[i - n0]? with | some y=>x.same y | none=>false)
 | _=>false
mutual
def ZB (n0:Nat) (args:List E) (z:SV) (zJ:SV):Bool :=
 (z.same zJ&&z.lt n0) || (match z with
 | .e t x=>(match zJ with | .e u y=>decide (t=u)&&VI n0 args x y | _=>false)
 | .own i a t x=>(match zJ with | .own j b u y=>decide (i=j)&&Nat.beq a b&&decide (t=u)&&VI n0 args x y | _=>false)
 | .mpc k t x=>(match zJ with | .mpc q u y=>decide (k=q)&&decide (t=u)&&VI n0 args x y | _=>false)
 | .ref t x a=>(match zJ with | .ref u y b=>decide (t=u)&&Nat.beq a b&&VI n0 args x y | _=>false)
 | .agg cs=>(match zJ with | .agg ds=>NG n0 args cs ds | _=>false)
 | .mix t x os zs=>(match zJ with | .mix u y ps ws=>decide (t=u)&&decide (os=ps)&&(VI n0 args x y || (x.same y&&x.lt n0))&&NG n0 args zs ws | _=>false)
 | .fn f cs=>(match zJ with | .fn g ds=>Nat.beq f g&&NG n0 args cs ds | _=>false)
 | _=>false)
def NG (n0:Nat) (args:List E) (zs:List SV) (zJs:List SV):Bool:=match zs with
 | []=>(match zJs with | []=>true | _=>false)
 | x::xs=>(match zJs with | y::ys=>ZB n0 args x y&&NG n0 args xs ys | _=>false)
end
theorem PX {env:List Val}:∀ {es:List E} {vs:List Val},evs env es=some vs→∀ {i:Nat} {x:E},es[i]? = some x→∃ v,vs[i]? = some v∧x.val env=some v
 | [],vs,h,i,x,hx=>by simp at hx
 | e::es,vs,h,i,x,hx=>by
  simp only [evs] at h
  split at h
  ·rename_i v vs' h1 h2
   cases h
   cases i with
   | zero=>simp at hx;subst hx;exact ⟨v,by simp,h1⟩
   | succ i=>simpa using PX h2 (by simpa using hx)
  ·cases h
theorem uM {env0 l:List Val} {args:List E} {vs:List Val} (hv:evs (env0++l) args=some vs) {x y:E} {v:Val} (h:VI env0.length args x y=true) (hx:x.val (env0++l)=some v):y.val (env0++vs)=some v:=by
 unfold VI at h
 split at h
 ·rename_i i
  simp only [Bool.and_eq_true] at h
  obtain ⟨h1,h2⟩:=h
  have hle:=Nat.le_of_ble_eq_true h1
  split at h2
  ·rename_i y' hy
   have:=E.same_eq h2
   subst this
   obtain ⟨w,g1,g2⟩:=PX hv hy
   rw [hx] at g2;cases g2
   simp only [E.val]
   rw [List.getElem?_append_right hle];exact g1
  ·cases h2
 ·cases h
mutual
theorem Dc {env0 l:List Val} {args:List E} {vs:List Val} (hv:evs (env0++l) args=some vs):∀ (z:SV) {zJ:SV} {v:V},ZB env0.length args z zJ=true→ah (env0++l) z v→ah (env0++vs) zJ v:=by
 intro z zJ v h hz
 rw [ZB.eq_def,Bool.or_eq_true] at h
 rcases h with h | h
 ·simp only [Bool.and_eq_true] at h
  have:=SV.same_eq _ h.1
  subst this
  exact (ah.lt l h.2 hz).app vs
 ·cases z with
  | e t x =>
   cases zJ with
   | e u y =>
    simp only [Bool.and_eq_true,decide_eq_true_eq] at h
    obtain ⟨rfl,h⟩:=h
    simp only [ah] at hz ⊢
    obtain ⟨a,h1,h2⟩:=hz
    exact ⟨a,uM hv h h1,h2⟩
   | _=>simp at h
  | own i a t x =>
   cases zJ with
   | own j b u y =>
    simp only [Bool.and_eq_true,decide_eq_true_eq] at h
    obtain ⟨⟨⟨rfl,hab⟩,rfl⟩,h⟩:=h
    have:=Nat.eq_of_beq_eq_true hab
    subst this
    simp only [ah] at hz ⊢
    obtain ⟨c,h1,h2⟩:=hz
    exact ⟨c,uM hv h h1,h2⟩
   | _=>simp at h
  | mpc k t x =>
   cases zJ with
   | mpc q u y =>
    simp only [Bool.and_eq_true,decide_eq_true_eq] at h
    obtain ⟨⟨rfl,rfl⟩,h⟩:=h
    simp only [ah] at hz ⊢
    obtain ⟨c,kvs,h1,h2⟩:=hz
    exact ⟨c,kvs,uM hv h h1,h2⟩
   | _=>simp at h
  | ref t x a =>
   cases zJ with
   | ref u y b =>
    simp only [Bool.and_eq_true,decide_eq_true_eq] at h
    obtain ⟨⟨rfl,hab⟩,h⟩:=h
    have:=Nat.eq_of_beq_eq_true hab
    subst this
    simp only [ah] at hz ⊢
    obtain ⟨c,cs,h1,h2⟩:=hz
    exact ⟨c,cs,uM hv h h1,h2⟩
   | _=>simp at h
  | agg cs =>
   cases zJ with
   | agg ds =>
    simp only [ah] at hz ⊢
    obtain ⟨c,h1,h2⟩:=hz
    exact ⟨c,h1,Il hv cs h h2⟩
   | _=>simp at h
  | mix t x os zs =>
   cases zJ with
   | mix u y ps ws =>
    simp only [Bool.and_eq_true,Bool.or_eq_true,decide_eq_true_eq] at h
    obtain ⟨⟨⟨rfl,rfl⟩,hb⟩,hf⟩:=h
    simp only [ah] at hz ⊢
    obtain ⟨a,c,h1,h2,h3,h4,h5⟩:=hz
    refine ⟨a,c,?_,h2,h3,PY hv zs hf h4,h5⟩
    rcases hb with hb | hb
    ·exact uM hv hb h1
    ·have:=E.same_eq hb.1
     subst this
     rw [E.oC l hb.2] at h1
     exact E.dh vs h1
   | _=>simp at h
  | fn f cs =>
   cases zJ with
   | fn g ds =>
    simp only [Bool.and_eq_true] at h
    have:=Nat.eq_of_beq_eq_true h.1
    subst this
    simp only [ah] at hz ⊢
    obtain ⟨c,h1,h2⟩:=hz
    exact ⟨c,h1,Il hv cs h.2 h2⟩
   | _=>simp at h
  | _=>simp at h
theorem Il {env0 l:List Val} {args:List E} {vs:List Val} (hv:evs (env0++l) args=some vs):∀ (zs:List SV) {zJs:List SV} {us:List V},NG env0.length args zs zJs=true→aB (env0++l) zs us→aB (env0++vs) zJs us:=by
 intro zs zJs us h hz
 cases zs with
 | nil =>
  cases zJs with
  | nil=>exact hz
  | cons y ys=>simp [NG] at h
 | cons x xs =>
  cases zJs with
  | nil=>simp [NG] at h
  | cons y ys =>
   simp only [NG,Bool.and_eq_true] at h
   simp only [aB] at hz ⊢
   obtain ⟨v,vs',h1,h2,h3⟩:=hz
   exact ⟨v,vs',h1,Dc hv x h.1 h2,Il hv xs h.2 h3⟩
theorem PY {env0 l:List Val} {args:List E} {vs:List Val} (hv:evs (env0++l) args=some vs):∀ (zs:List SV) {ws:List SV} {os:List Nat} {c:List V},NG env0.length args zs ws=true→aV (env0++l) os zs c→aV (env0++vs) os ws c:=by
 intro zs ws os c h hz
 cases zs with
 | nil =>
  cases ws with
  | nil=>exact hz
  | cons y ys=>simp [NG] at h
 | cons x xs =>
  cases ws with
  | nil=>simp [NG] at h
  | cons y ys =>
   simp only [NG,Bool.and_eq_true] at h
   simp only [aV] at hz ⊢
   obtain ⟨i,os',h1,⟨v,h2,h3⟩,h4⟩:=hz
   exact ⟨i,os',h1,⟨v,h2,Dc hv x h.1 h3⟩,PY hv xs h.2 h4⟩
end
def aaN (n0:Nat) (args:List E) (ts:List (Nat×SV)):List (Nat×SV)→Bool
 | []=>true
 | (t,z)::l=>ZB n0 args (lkS t ts) z&&aaN n0 args ts l
def aaO (n0:Nat) (args:List E) (bx:List (Name×SV)):List (Name×SV)→Bool
 | []=>true
 | (n,z)::l=>(match aj n bx with | some y=>ZB n0 args y z | none=>false)&&aaO n0 args bx l
def MH (n0:Nat):List (Nat×SV)→List (Nat×SV)→Bool
 | [],[]=>true
 | (a,x)::l,(b,y)::m=>Nat.beq a b&&x.same y&&x.lt n0&&MH n0 l m
 | _,_=>false
def MI (n0:Nat):List SFr→List SFr→Bool
 | [],[]=>true
 | f::fs,g::gs=>decide (f.rd=g.rd)&&Nat.beq f.n g.n&&MH n0 f.ts g.ts&&MI n0 fs gs
 | _,_=>false
def aa8:Option (Option Code)→Option (Option Code)→Bool
 | none,none=>true
 | some none,some none=>true
 | some (some (.exit i)),some (some (.exit j))=>Nat.beq i j
 | some (some .ret),some (some .ret)=>true
 | _,_=>false
def lpB:List (Name×Lp)→List (Name×Lp)→Bool
 | [],[]=>true
 | (n,p)::l,(m,q)::k=>decide (n=m)&&aa8 p.pending q.pending&&lpB l k
 | _,_=>false
def aaP (n0:Nat) (args:List E) (vc:List (Name×Ty×E)):List (Name×Ty×E)→Bool
 | []=>true
 | (n,t,x)::l=>(match aj n vc with | some (u,y)=>decide (u=t)&&((y.same x&&y.lt n0) || VI n0 args y x) | none=>false)&&aaP n0 args vc l
def Io (n0:Nat) (args:List E) (y yJ:Sy):Bool :=
 decide (y.rd=yJ.rd)&&Nat.beq y.n yJ.n&&aaN n0 args y.ts yJ.ts&&MI n0 y.sv yJ.sv&&aaO n0 args y.bx yJ.bx&&lpB y.lp yJ.lp&&yJ.ow.all (fun i=>y.ow.contains i)&&aaP n0 args y.vc yJ.vc&&yJ.vc.all (fun c=>yJ.ow.contains c.1)
theorem XA {a b:Option (Option Code)} (h:aa8 a b=true):a=b:=by
 unfold aa8 at h
 split at h <;> first | rfl | (rw [Nat.eq_of_beq_eq_true h]) | cases h
def lpS (l:List (Name×Lp)):List (Name×(Nat×Array Tmp×Code×Code)):=l.map fun x=>(x.1,x.2.depth,x.2.ps,x.2.assign,x.2.body)
theorem VJ:∀ {l k:List (Name×Lp)},lpB l k=true→lpS l=lpS k→l=k
 | [],[],_,_=>rfl
 | (n,p)::l,(m,q)::k,h,hs=>by
  simp only [lpB,Bool.and_eq_true,decide_eq_true_eq] at h
  simp only [lpS,List.map_cons,List.cons.injEq,Prod.mk.injEq] at hs
  obtain ⟨⟨h1,h2⟩,h3⟩:=h
  obtain ⟨⟨_,s1,s2,s3,s4⟩,s5⟩:=hs
  have e:p=q:=by
   obtain ⟨d,ps,a,b,pd⟩:=p
   obtain ⟨d',ps',a',b',pd'⟩:=q
   simp only at s1 s2 s3 s4 h2
   rw [s1,s2,s3,s4,XA h2]
  rw [h1,e,VJ h3 s5]
 | [],_::_,h,_=>by simp [lpB] at h
 | _::_,[],h,_=>by simp [lpB] at h
theorem JL {env0 l vs:List Val}:∀ {xs ys:List (Nat×SV)} {us:List (Nat×V)},MH env0.length xs ys=true→aG (env0++l) xs us→aG (env0++vs) ys us
 | [],[],us,h,hz=>hz
 | (a,x)::xs,(b,y)::ys,us,h,hz=>by
  simp only [MH,Bool.and_eq_true] at h
  obtain ⟨⟨⟨h1,h2⟩,h3⟩,h4⟩:=h
  have e1:=Nat.eq_of_beq_eq_true h1
  have e2:=SV.same_eq _ h2
  subst e1;subst e2
  simp only [aG] at hz ⊢
  obtain ⟨v,vs',g1,g2,g3⟩:=hz
  exact ⟨v,vs',g1,(ah.lt l h3 g2).app vs,JL h4 g3⟩
 | [],_::_,_,h,_=>by simp [MH] at h
 | _::_,[],_,h,_=>by simp [MH] at h
theorem JM {env0 l vs:List Val}:∀ {xs ys:List SFr} {us:List Fr},MI env0.length xs ys=true→eY (env0++l) xs us→eY (env0++vs) ys us
 | [],[],us,h,hz=>hz
 | f::xs,g::ys,us,h,hz=>by
  simp only [MI,Bool.and_eq_true,decide_eq_true_eq] at h
  obtain ⟨⟨⟨h1,h2⟩,h3⟩,h4⟩:=h
  have e2:=Nat.eq_of_beq_eq_true h2
  simp only [eY] at hz ⊢
  obtain ⟨v,vs',g1,g2,g3,g4,g5⟩:=hz
  exact ⟨v,vs',g1,by rw [g2,h1],by rw [g3,e2],JL h3 g4,JM h4 g5⟩
 | [],_::_,_,h,_=>by simp [MI] at h
 | _::_,[],_,h,_=>by simp [MI] at h
theorem PZ {env0 l:List Val} {args:List E} {vs:List Val} (hv:evs (env0++l) args=some vs) {ts:List (Nat×SV)} {us:List (Nat×V)} (hi:aG (env0++l) ts us):∀ {js:List (Nat×SV)},aaN env0.length args ts js=true →
  aG (env0++vs) js (js.map fun x=>(x.1,lkT x.1 us))
 | [],_=>rfl
 | (t,z)::js,h=>by
  simp only [aaN,Bool.and_eq_true] at h
  exact ⟨_,_,rfl,Dc hv _ h.1 hi.lk,PZ hv hi h.2⟩
theorem P5 {env0 l:List Val} {args:List E} {vs:List Val} (hv:evs (env0++l) args=some vs) {bx:List (Name×SV)} {us:List (Name×V)} (hi:aG (env0++l) bx us):∀ {js:List (Name×SV)},aaO env0.length args bx js=true →
  aG (env0++vs) js (js.map fun x=>(x.1,(aj x.1 us).getD .dead))∧∀ x∈js.map (fun x=>(x.1,(aj x.1 us).getD V.dead)),aj x.1 us=some x.2
 | [],_=>⟨rfl,by simp⟩
 | (n,z)::js,h=>by
  simp only [aaO,Bool.and_eq_true] at h
  obtain ⟨h1,h2⟩:=h
  split at h1
  ·rename_i y hy
   obtain ⟨v,e1,e2⟩:=(hi.look (n:=n)).1 hy
   obtain ⟨r1,r2⟩:=P5 hv hi h2
   refine ⟨⟨_,_,rfl,by rw [e1];exact Dc hv _ h1 e2,r1⟩,?_⟩
   intro x hx
   rw [List.map_cons] at hx
   rcases List.mem_cons.1 hx with rfl | hx
   ·simp only [e1,Option.getD_some]
   ·exact r2 x hx
  ·cases h1
theorem P6 {env0 l:List Val} {args:List E} {vs:List Val} (hv:evs (env0++l) args=some vs) {vc:List (Name×Ty×E)} {us:List (Name×Nat×List D)} (hi:fB (env0++l) vc us):∀ {js:List (Name×Ty×E)},aaP env0.length args vc js=true →
  fB (env0++vs) js (js.map fun x=>(x.1,(aj x.1 us).getD default))∧∀ x∈js.map (fun x=>(x.1,(aj x.1 us).getD default)),aj x.1 us=some x.2
 | [],_=>⟨rfl,by simp⟩
 | (n,t,x)::js,h=>by
  simp only [aaP,Bool.and_eq_true] at h
  obtain ⟨h1,h2⟩:=h
  split at h1
  ·rename_i u y hy
   simp only [Bool.and_eq_true,Bool.or_eq_true,decide_eq_true_eq] at h1
   obtain ⟨rfl,h1⟩:=h1
   obtain ⟨a,e1,e2⟩:=(hi.look (n:=n)).1 hy
   obtain ⟨r1,r2⟩:=P6 hv hi h2
   refine ⟨⟨a,_,?_,?_,r1⟩,?_⟩
   ·simp only [List.map_cons,e2,Option.getD_some]
   ·rcases h1 with h1 | h1
    ·have:=E.same_eq h1.1
     subst this
     rw [E.oC l h1.2] at e1
     exact E.dh vs e1
    ·exact uM hv h1 e1
   ·intro z hz
    rw [List.map_cons] at hz
    rcases List.mem_cons.1 hz with rfl | hz
    ·simp only [e2,Option.getD_some]
    ·exact r2 z hz
  ·cases h1
theorem Df {env0 l:List Val} {args:List E} {vs:List Val} {y yJ:Sy} {s:Sa} (hf:Io env0.length args y yJ=true) (hl:lpS y.lp=lpS yJ.lp) (hI:Inst (env0++l) y s) (hv:evs (env0++l) args=some vs)
  (hg:(env0++vs).map (·.1)=yJ.g):∃ s',Wk s s' ∧ Inst (env0++vs) yJ s':=by
 simp only [Io,Bool.and_eq_true,decide_eq_true_eq] at hf
 obtain ⟨⟨⟨⟨⟨⟨⟨⟨h1,h2⟩,h3⟩,h4⟩,h5⟩,h6⟩,h7⟩,h8⟩,h9⟩:=hf
 have e2:=Nat.eq_of_beq_eq_true h2
 have e6:=VJ h6 hl
 obtain ⟨b1,b2⟩:=P5 hv hI.bx h5
 obtain ⟨c1,c2⟩:=P6 hv hI.vc h8
 refine ⟨{ s with ts:=yJ.ts.map fun x=>(x.1,lkT x.1 s.ts),bx:=yJ.bx.map fun x=>(x.1,(aj x.1 s.bx).getD .dead),ow:=yJ.ow,vc:=yJ.vc.map fun x=>(x.1,(aj x.1 s.vc).getD default) },?_,?_⟩
 ·refine Wk.lists rfl rfl rfl (fun x hx=>?_) rfl (fun x hx=>b2 x hx) (fun i hi=>?_) (fun n c hn=>?_)
  ·obtain ⟨z,_,rfl⟩:=List.mem_map.1 hx;rfl
  ·have:=List.all_eq_true.1 h7 i hi
   rw [hI.ow];exact List.contains_iff_mem.1 this
  ·have hm:=ji hn
   refine ⟨c2 _ hm,fun _=>?_⟩
   obtain ⟨z,hz,e⟩:=List.mem_map.1 hm
   have:=List.all_eq_true.1 h9 z hz
   have e1:z.1=n:=by simpa using congrArg Prod.fst e
   rw [e1] at this
   exact List.contains_iff_mem.1 this
 ·exact ⟨hg,by rw [← h1];exact hI.rd,by rw [← e2];exact hI.n,PZ hv hI.ts h3,JM h4 hI.sv,b1,by rw [← e6];exact hI.lp,rfl,c1⟩
theorem jG {s s' s'' : Sa} (h:Wk s s') (h' : Wk s' s''):Wk s s'':=fun Mo m as w hR=>by
 obtain ⟨m1,h1,h2,h3⟩:=h Mo m as w hR
 obtain ⟨m2,h4,h5,h6⟩:=h' Mo m1 as w h1
 exact ⟨m2,h4,h2.trans h5,h6.trans h3⟩
theorem Uj {s:Sa} (i:Name):Wk s (s.strip i):=fun Mo m as w hR =>
 ⟨m,hR.strip i,(Step.refl m s w).strip i,rfl⟩
def qR (i:Name) (y:Sy):Sy:=match i with
 | 987654321::j=>y.soft j
 | i=>(y.soft i).strip i
theorem MJ {env:List Val} {y:Sy} {s:Sa} (h:Inst env y s) (i:Name):∃ s',Wk s s' ∧ Inst env (qR i y) s':=by
 unfold qR
 split
 ·exact ⟨_,He s _,h.soft _⟩
 ·exact ⟨_,jG (He s i) (Uj i),(h.soft i).strip i⟩
theorem MK {i:Name} {y:Sy}:(qR i y).lp=y.lp:=by
 unfold qR
 split
 ·exact Sy.Ik
 ·exact Sy.Ik
theorem P7 {i:Name} {y:Sy}:(qR i y).g=y.g:=by
 unfold qR
 split
 ·exact Sy.VH
 ·exact Sy.VH
def kW (ids:List Name) (y:Sy):Sy:=ids.foldl (fun y i=>qR i y) y
theorem qU {env:List Val}:∀ {ids:List Name} {y:Sy} {s:Sa},Inst env y s→∃ s',Wk s s' ∧ Inst env (kW ids y) s'
 | [],y,s,h=>⟨s,Wk.refl,h⟩
 | i::ids,y,s,h=>by
  obtain ⟨s0,w0,h0⟩:=MJ h i
  obtain ⟨s',h1,h2⟩:=qU (ids:=ids) h0
  exact ⟨s',jG w0 h1,h2⟩
theorem AP {env:List Val}:∀ {ids:List Name} {y:Sy} {s:Sa},Inst env y s→∃ s',Wk s s' ∧ Inst env (PW ids y) s'
 | [],y,s,h=>⟨s,Wk.refl,h⟩
 | i::ids,y,s,h=>by
  obtain ⟨s',h1,h2⟩:=AP (ids:=ids) (h.soft i)
  exact ⟨s',jG (He s i) h1,h2⟩
theorem qV {ids:List Name} {y:Sy}:(kW ids y).lp=y.lp:=by
 unfold kW
 induction ids generalizing y with
 | nil=>rfl
 | cons i ids ih =>
  simp only [List.foldl_cons]
  rw [ih]
  exact MK
theorem P8 {c:V} {d:D} (h:c.toD=some d):c.vT=false∧((∃ vs ds,c = .agg vs∧eX V.lu vs=some ds∧d = .agg ds)∨c = .d d∨(c.cells=[c]∧d.cells=[d])):=by
 cases c <;> simp only [V.toD,V.lu,reduceCtorEq,Option.some.injEq,Option.map_eq_some_iff] at h
 case d x=>subst h;exact ⟨rfl,.inr (.inl rfl)⟩
 case nil=>subst h;exact ⟨rfl,.inr (.inr ⟨rfl,rfl⟩)⟩
 case own i sz xs=>subst h;exact ⟨rfl,.inr (.inr ⟨rfl,rfl⟩)⟩
 case agg vs=>obtain ⟨ds,h1,rfl⟩:=h;exact ⟨rfl,.inl ⟨vs,ds,rfl,h1,rfl⟩⟩
theorem rX {c:V} {d:D} (h:c.toD=some d):(V.d d).cells.length=c.cells.length∧∀ {w:World} {M:Cells} {m:Mp} {x:Value} (i:Nat) (h1:i<c.cells.length) (h2:i<(V.d d).cells.length),aU w M m c.cells[i] x→aU w M m (V.d d).cells[i] x:=by
 rcases (P8 h).2 with ⟨vs,ds,rfl,h1,rfl⟩ | rfl | ⟨e1,e2⟩
 ·obtain ⟨k1,k2⟩:=fF h1
  refine ⟨by simp [V.cells,k1],fun i h1 h2 hr=>?_⟩
  simp only [V.cells,List.length_map] at h1 h2
  simp only [V.cells,List.getElem_map] at hr ⊢
  exact .d (hr.lu (k2 i h1 (by omega)))
 ·exact ⟨rfl,fun i h1 h2 hr=>hr⟩
 ·have e3:(V.d d).cells=[V.d d]:=by rw [iD,e2];rfl
  refine ⟨by rw [e1,e3];rfl,fun i h1 h2 hr=>?_⟩
  have hi:i=0:=by rw [e1] at h1;simpa using h1
  subst hi
  have e4:c.cells[0]=c:=by simp only [e1,List.getElem_cons_zero]
  have e5:(V.d d).cells[0]=V.d d:=by simp only [e3,List.getElem_cons_zero]
  rw [e4] at hr;rw [e5]
  exact .d (hr.toD h)
theorem XB {s s' : Sa} (hrd:s'.rd=s.rd) (hn:s'.n=s.n) (hlp:s'.lp=s.lp) (hts:∀ t,lkT t s'.ts=lkT t s.ts∨∃ d,(lkT t s.ts).toD=some d∧lkT t s'.ts = .d d)
  (hsv:s'.sv=s.sv) (hbx:∀ nm,aj nm s'.bx=aj nm s.bx∨∃ c d,aj nm s.bx=some c∧c.toD=some d∧aj nm s'.bx=some (.d d)) (how:s'.ow=s.ow) (hvc:s'.vc=s.vc):Wk s s':=by
 intro Mo m as w hR
 have hin:∀ nm c,aj nm s'.bx=some c→∃ c',aj nm s.bx=some c':=fun nm c h=>by
  rcases hbx nm with e | ⟨c',d,e,_⟩
  ·exact ⟨c,by rw [← e];exact h⟩
  ·exact ⟨c',e⟩
 have hmut:∀ b o,Mut s'.bx s'.ow m b o→Mut s.bx s.ow m b o:=by
  rintro b o (⟨nm,c,h1,h2⟩ | ⟨i,h1,h2⟩)
  ·obtain ⟨c',h⟩:=hin nm c h1;exact .inl ⟨nm,c',h,h2⟩
  ·exact .inr ⟨i,by rw [← how];exact h1,h2⟩
 have hst:lC w (Tot Mo s.bx s.ow m) w (Tot Mo s'.bx s'.ow m):=fun b o c hc hm=>⟨hc,fun ht=>hm (ht.imp id (hmut b o))⟩
 refine ⟨m,⟨by rw [hsv];exact hR.len,?_,?_,?_,?_,?_,?_,?_,?_,?_,hR.mo,hR.mks,?_,fun n c hn=>by rw [hvc] at hn;exact ⟨by rw [how];exact (hR.vec n c hn).1,(hR.vec n c hn).2.mono hst rfl rfl (fun _ _ _ _ _ hv=>hv) (fun b c T hc=>⟨c,hc,rfl⟩)⟩⟩,⟨.of_below (Go.RowKit.Below.refl _ _),fun b o _ h=>hmut b o h,fun b _ h=>by rw [hlp] at h;exact h,hrd,by rw [hsv],fun _ _=>rfl⟩,by simp only [bf,hrd]⟩
 ·intro i hi hi'
  cases i with
  | zero =>
   have h0:=hR.fr 0 (by simp) hi'
   refine ⟨by simp only [List.getElem_cons_zero,hn];exact h0.size,fun t=>?_,h0.def_⟩
   simp only [List.getElem_cons_zero]
   rcases hts t with h | ⟨d,h1,h2⟩
   ·rw [h];exact hst.kJ (h0.ts t)
   ·rw [h2];exact .d ((hst.kJ (h0.ts t)).toD h1)
  | succ i =>
   have h0:=hR.fr (i+1) (by simpa [hsv] using hi) hi'
   have e:(({ rd:=s'.rd,n:=s'.n,ts:=s'.ts }:Fr)::s'.sv)[i+1]=(({ rd:=s.rd,n:=s.n,ts:=s.ts }:Fr)::s.sv)[i+1]'(by simpa [hsv] using hi):=by simp [hsv]
   rw [e];exact h0.GN hst
 ·intro nm c h
  rcases hbx nm with e | ⟨c',d,e1,e2,e3⟩
  ·obtain ⟨cs,T,hb⟩:=hR.box nm c (by rw [← e];exact h)
   exact ⟨cs,T,hb.heap,hb.size,hb.leafs,fun i hi=>hst.kJ (hb.rep i hi)⟩
  ·rw [e3] at h;cases h
   obtain ⟨cs,T,hb⟩:=hR.box nm c' e1
   obtain ⟨k1,k2⟩:=rX e2
   have hm:=(P8 e2).1
   refine ⟨cs,T,.mk (hb.heap.cells hm) rfl,by rw [hb.size,k1],fun i hi=>hb.leafs i (by rw [← k1];exact hi),fun i hi=>?_⟩
   exact k2 i (by rw [← k1];exact hi) hi (hst.kJ (hb.rep i (by rw [← k1];exact hi)))
 ·intro a b c d h1 h2 e
  obtain ⟨b',hb⟩:=hin _ _ h1
  obtain ⟨d',hd⟩:=hin _ _ h2
  exact hR.inj a b' c d' hb hd e
 ·exact fun i hi hn=>hR.oww i (by rw [← how];exact hi) hn
 ·exact fun i hi j hj h1 h2 e=>hR.owx i (by rw [← how];exact hi) j (by rw [← how];exact hj) h1 h2 e
 ·intro i hi hn nm c h
  obtain ⟨c',hc⟩:=hin _ _ h
  exact hR.owb i (by rw [← how];exact hi) hn nm c' hc
 ·intro l q hl
  rw [hlp] at hl;exact hR.lps l q hl
 ·intro l q hl
  rw [hlp] at hl;exact hR.dep l q hl
 ·intro l q l' q' h1 h2 e
  rw [hlp] at h1 h2;exact hR.lpi l q l' q' h1 h2 e
 ·exact fun i hi hn=>hR.owm i (by rw [← how];exact hi) hn
abbrev Cv:=List (Nat×Ty)×List (Name×Ty)
def P9 (w:Ty) (z:SV):SV:=match asE (some w) z with
 | some (u,x)=>.e u x
 | none=>z
def aa9 (t:Nat):List (Nat×Ty)→Option Ty
 | []=>none
 | (a,w)::l=>if Nat.beq a t then some w else aa9 t l
def Uk {κ:Type} (f:κ→Option Ty) (l:List (κ×SV)):List (κ×SV):=l.map fun x=>(x.1,match f x.1 with | some w=>P9 w x.2 | none=>x.2)
def XC (cv:Cv) (y:Sy):Sy:={ y with ts:=Uk (fun t=>aa9 t cv.1) y.ts,bx:=Uk (fun n=>aj n cv.2) y.bx }
theorem JO {env:List Val} {w:Ty} {z:SV} {v:V} (h:ah env z v):∃ v',ah env (P9 w z) v' ∧ (v' = v∨∃ d,v.toD=some d∧v' = .d d):=by
 unfold P9
 split
 ·rename_i u x he
  obtain ⟨a,h1,h2⟩:=qJ he h
  exact ⟨.d (bD u a),by simp only [ah];exact ⟨a,h1,rfl⟩,.inr ⟨_,h2,rfl⟩⟩
 ·exact ⟨v,h,.inl rfl⟩
theorem JQ {env:List Val} {f:Nat→Option Ty}:∀ {l:List (Nat×SV)} {us:List (Nat×V)},aG env l us→∃ us',aG env (Uk f l) us' ∧ ∀ t,lkT t us' = lkT t us∨∃ d,(lkT t us).toD=some d∧lkT t us' = .d d
 | [],us,h=>by simp only [aG] at h;subst h;exact ⟨[],rfl,fun t=>.inl rfl⟩
 | (k,z)::l,us,h=>by
  simp only [aG] at h
  obtain ⟨v,us',rfl,h2,h3⟩:=h
  obtain ⟨us2,e1,e2⟩:=JQ (f:=f) h3
  have hv:∃ v',ah env (match f k with | some w=>P9 w z | none=>z) v' ∧ (v' = v∨∃ d,v.toD=some d∧v' = .d d):=by
   split
   ·exact JO h2
   ·exact ⟨v,h2,.inl rfl⟩
  obtain ⟨v',g1,g2⟩:=hv
  refine ⟨(k,v')::us2,⟨_,_,rfl,g1,e1⟩,fun t=>?_⟩
  simp only [lkT]
  split
  ·rcases g2 with rfl | g2
   ·exact .inl rfl
   ·exact .inr g2
  ·exact e2 t
theorem JR {env:List Val} {f:Name→Option Ty}:∀ {l:List (Name×SV)} {us:List (Name×V)},aG env l us→∃ us',aG env (Uk f l) us' ∧ ∀ nm,aj nm us' = aj nm us∨∃ c d,aj nm us=some c∧c.toD=some d∧aj nm us' = some (.d d)
 | [],us,h=>by simp only [aG] at h;subst h;exact ⟨[],rfl,fun t=>.inl rfl⟩
 | (k,z)::l,us,h=>by
  simp only [aG] at h
  obtain ⟨v,us',rfl,h2,h3⟩:=h
  obtain ⟨us2,e1,e2⟩:=JR (f:=f) h3
  have hv:∃ v',ah env (match f k with | some w=>P9 w z | none=>z) v' ∧ (v' = v∨∃ d,v.toD=some d∧v' = .d d):=by
   split
   ·exact JO h2
   ·exact ⟨v,h2,.inl rfl⟩
  obtain ⟨v',g1,g2⟩:=hv
  refine ⟨(k,v')::us2,⟨_,_,rfl,g1,e1⟩,fun t=>?_⟩
  simp only [aj]
  split
  ·rcases g2 with rfl | ⟨d,g2,rfl⟩
   ·exact .inl rfl
   ·exact .inr ⟨v,d,rfl,g2,rfl⟩
  ·exact e2 t
theorem Ul {env:List Val} {cv:Cv} {y:Sy} {s:Sa} (h:Inst env y s):∃ s',Wk s s' ∧ Inst env (XC cv y) s':=by
 obtain ⟨ts',e1,e2⟩:=JQ (f:=fun t=>aa9 t cv.1) h.ts
 obtain ⟨bx',g1,g2⟩:=JR (f:=fun n=>aj n cv.2) h.bx
 exact ⟨{ s with ts:=ts',bx:=bx' },XB rfl rfl rfl e2 rfl g2 rfl rfl,h.g,h.rd,h.n,e1,h.sv,g1,h.lp,h.ow,h.vc⟩
def uN (ids:List Name) (cv:Cv) (y:Sy):Sy:=XC cv (kW ids y)
theorem Dh {env:List Val} {ids:List Name} {cv:Cv} {y:Sy} {s:Sa} (h:Inst env y s):∃ s',Wk s s' ∧ Inst env (uN ids cv y) s':=by
 obtain ⟨s1,w1,i1⟩:=qU (ids:=ids) h
 obtain ⟨s2,w2,i2⟩:=Ul (cv:=cv) i1
 exact ⟨s2,jG w1 w2,i2⟩
theorem wH {ids:List Name} {cv:Cv} {y:Sy}:(uN ids cv y).lp=y.lp:=qV
theorem fV {P:Program} {p:Name} {c:Code} {s:Sa} {Q:Ex→Sa→Prop} (h:TC P p c s (fun e s'=>∃ s'',Wk s' s'' ∧ Q e s'')):TC P p c s Q:=fun Mo m a sv w n hR =>
 wpIn_mono (h Mo m a sv w n hR) (fun e a' w' ⟨x,m',s',h1,⟨s'',hw,hq⟩,h3,h4,h5,h6⟩=>by
  obtain ⟨m2,g1,g2,g3⟩:=hw Mo m' _ w' h3
  exact ⟨x,m2,s'',h1,hq,g1,h4.trans g2,g3.trans h5,h6⟩)
structure Leaf where
 e:Ex
 v:SV
 s:Sy
def JU:Ex→Ex→Bool
 | .norm,.norm=>true
 | .ret,.ret=>true
 | .exit i,.exit j=>Nat.beq i j
 | _,_=>false
theorem Qa {a b:Ex} (h:JU a b=true):a=b:=by
 unfold JU at h
 split at h <;> first | rfl | (rw [Nat.eq_of_beq_eq_true h]) | cases h
def sigma (n0:Nat) (ids:List Name) (cv:Cv) (yJ:Sy) (rep:Leaf):List Leaf→List (List E)→Nat→Option (List T×List Leaf)
 | [],_,_=>some ([],[])
 | lf::L,as,k=>if JU lf.e rep.e&&lpB lf.s.lp rep.s.lp then (match as with
   | a::as=>if Io n0 a (uN ids cv lf.s) yJ then (sigma n0 ids cv yJ rep L as k).map fun r=>(.jump 0 a::r.1,r.2) else none
   | []=>none)
  else (sigma n0 ids cv yJ rep L as (k+1)).map fun r=>(.hole k::r.1,lf::r.2)
def glue (n0:Nat) (ids:List Name) (cv:Cv) (yJ:Sy) (ps:List Ty) (rep:Leaf) (as:List (List E)) (t:T) (L:List Leaf):Option (T×List Leaf) :=
 match sigma n0 ids cv yJ rep L as 1 with
 | some (ts,os)=>some (.letj ps (.hole 0) ((t.lift 0).sub fun i=>ts.getD i .fail),⟨rep.e,.dead,yJ⟩::os)
 | none=>none
def LQ (L:List Leaf) (Q:Leaf→List Val→Prop):Nat→List Val→Prop:=fun i env=>∃ lf,L[i]? = some lf∧Q lf env
abbrev noJ:Jt:=fun _ _=>False
theorem wI {n0:Nat} {ids:List Name} {cv:Cv} {yJ:Sy} {rep:Leaf}:∀ {L:List Leaf} {as:List (List E)} {k:Nat} {ts:List T} {os:List Leaf},sigma n0 ids cv yJ rep L as k=some (ts,os)→∀ {i:Nat} {lf:Leaf},L[i]? = some lf →
  (∃ a,ts[i]? = some (.jump 0 a)∧lf.e=rep.e∧Io n0 a (uN ids cv lf.s) yJ=true)∨(∃ j,ts[i]? = some (.hole (k+j))∧os[j]? = some lf)
 | [],as,k,ts,os,h,i,lf,hl=>by simp at hl
 | x::L,as,k,ts,os,h,i,lf,hl=>by
  simp only [sigma] at h
  split at h
  ·rename_i hs
   simp only [Bool.and_eq_true] at hs
   split at h
   ·rename_i a as'
    split at h
    ·rename_i hf
     obtain ⟨⟨ts',os'⟩,h1,h2⟩:=Option.map_eq_some_iff.1 h
     cases h2
     cases i with
     | zero=>simp at hl;subst hl;exact .inl ⟨a,by simp,Qa hs.1,hf⟩
     | succ i=>simpa using wI h1 (by simpa using hl)
    ·cases h
   ·cases h
  ·obtain ⟨⟨ts',os'⟩,h1,h2⟩:=Option.map_eq_some_iff.1 h
   cases h2
   cases i with
   | zero=>simp at hl;subst hl;exact .inr ⟨0,by simp,by simp⟩
   | succ i =>
    rcases wI h1 (i:=i) (lf:=lf) (by simpa using hl) with ⟨a,g1,g2,g3⟩ | ⟨j,g1,g2⟩
    ·exact .inl ⟨a,by simpa using g1,g2,g3⟩
    ·exact .inr ⟨j+1,by simpa [Nat.add_assoc,Nat.add_comm 1 j] using g1,by simpa using g2⟩
theorem oP {n0:Nat} {ids:List Name} {cv:Cv} {yJ:Sy} {rep:Leaf}:∀ {L:List Leaf} {as:List (List E)} {k:Nat} {ts:List T} {os:List Leaf},sigma n0 ids cv yJ rep L as k=some (ts,os)→∀ lf∈os,lf∈L
 | [],as,k,ts,os,h=>by cases h;simp
 | x::L,as,k,ts,os,h=>by
  simp only [sigma] at h
  split at h
  ·split at h
   ·split at h
    ·obtain ⟨⟨ts',os'⟩,h1,h2⟩:=Option.map_eq_some_iff.1 h
     cases h2
     exact fun lf hl=>List.mem_cons_of_mem _ (oP h1 lf hl)
    ·cases h
   ·cases h
  ·obtain ⟨⟨ts',os'⟩,h1,h2⟩:=Option.map_eq_some_iff.1 h
   cases h2
   intro lf hl
   rcases List.mem_cons.1 hl with rfl | hl
   ·exact List.mem_cons_self
   ·exact List.mem_cons_of_mem _ (oP h1 lf hl)
theorem XD {CS:Calls'} (hCS:oG CS) {n0:Nat} {ids:List Name} {cv:Cv} {yJ:Sy} {ps:List Ty} {rep:Leaf} {as:List (List E)} {t t' : T} {L L' : List Leaf} {env:List Val} {Q:Leaf→List Val→Prop} (h:glue n0 ids cv yJ ps rep as t L=some (t',L')) (hn:env.length=n0) (hw:bW env)
  (hgJ:yJ.g=env.map (·.1)++ps) (hlp:∀ lf∈L,lpS lf.s.lp=lpS yJ.lp) {R:Ex→Sa→Prop} (hs:t'.sat CS noJ (LQ L' fun lf e=>∀ s',Inst e lf.s s' → R lf.e s') env) :
  t.sat CS noJ (LQ L fun lf e=>∀ s',Inst e lf.s s' → ∃ s'',Wk s' s'' ∧ R lf.e s'') env:=by
 unfold glue at h
 split at h
 ·rename_i ts os hsg
  cases h
  simp only [T.sat] at hs
  rw [T.uG,T.mV,mW] at hs
  have hs2:=T.uH hCS hw hs
  refine T.aW (fun _ _ h=>h.2) ?_ hs2
  rintro i e ⟨⟨l,rfl⟩,he,hq⟩
  cases hts:ts[i]? with
  | none=>simp [List.getD_eq_getElem?_getD,hts,T.sat] at hq
  | some tt =>
   simp only [List.getD_eq_getElem?_getD,hts,Option.getD_some] at hq
   have hlen:∀ {L:List Leaf} {as:List (List E)} {k:Nat} {ts:List T} {os:List Leaf},sigma n0 ids cv yJ rep L as k=some (ts,os)→ts.length=L.length:=by
    intro L
    induction L with
    | nil=>intro as k ts os h;cases h;rfl
    | cons x L ih =>
     intro as k ts os h
     simp only [sigma] at h
     split at h
     ·split at h
      ·split at h
       ·obtain ⟨⟨ts',os'⟩,h1,h2⟩:=Option.map_eq_some_iff.1 h
        cases h2;simp [ih h1]
       ·cases h
      ·cases h
     ·obtain ⟨⟨ts',os'⟩,h1,h2⟩:=Option.map_eq_some_iff.1 h
      cases h2;simp [ih h1]
   have hi:i<L.length:=by rw [← hlen hsg];exact (List.getElem?_eq_some_iff.1 hts).1
   refine ⟨L[i],List.getElem?_eq_getElem hi,?_⟩
   rcases wI hsg (List.getElem?_eq_getElem hi) with ⟨a,g1,g2,g3⟩ | ⟨j,g1,g2⟩
   ·rw [hts] at g1
    cases g1
    simp only [T.sat] at hq
    obtain ⟨vs,hv,hvs,lf,hlf,hR⟩:=hq
    simp only [List.getElem?_cons_zero,Option.some.injEq] at hlf
    subst hlf
    intro s' hI
    obtain ⟨s1,w1,i1⟩:=Dh (ids:=ids) (cv:=cv) hI
    obtain ⟨s2,w2,i2⟩:=Df (by rw [hn];exact g3) (by rw [wH];exact hlp _ (List.getElem_mem hi)) i1 hv (by rw [List.map_append,hvs,hgJ])
    refine ⟨s2,jG w1 w2,?_⟩
    rw [g2]
    exact hR s2 i2
   ·rw [hts] at g1
    cases g1
    simp only [T.sat] at hq
    obtain ⟨lf,hlf,hR⟩:=hq
    rw [Nat.add_comm 1 j,List.getElem?_cons_succ,g2] at hlf
    cases hlf
    exact fun s' hI=>⟨s',Wk.refl,hR s' hI⟩
 ·cases h
end Go.Tx
namespace Go.Tx
open Go Go.Ab
def Sy.dD (y:Sy) (n:Name) (off:Nat) (w:Ty):Sy:=match aj n y.bx with
 | some (.mix t x os zs)=>match oL off os zs with
  | some .nil=>{ y.strip (off::424242::n) with ow:=(off::424242::n)::(y.strip (off::424242::n)).ow,bx:=Ab.cO n (.mix t x (off::(iK off 1 os (SV.stripL (off::424242::n) zs)).1) (.own (off::424242::n) w.size w (.zero (.sl w))::(iK off 1 os (SV.stripL (off::424242::n) zs)).2)) (y.strip (off::424242::n)).bx }
  | _=>y
 | _=>y
section
variable {env:List Val} {y:Sy} {s:Sa}
theorem JV {c:List V} {v:V} {off:Nat} (h:off<c.length):over c [v] off=c.set off v:=by
 rw [List.set_eq_take_append_cons_drop,if_pos h]
 simp [over]
theorem Inst.dD (hI:Inst env y s) (n:Name) (off:Nat) (w:Ty):∃ s',Wk s s' ∧ Inst env (y.dD n off w) s':=by
 unfold Sy.dD
 split
 ·rename_i t x os zs hl
  split
  ·rename_i hp
   obtain ⟨v,h1,h2⟩:=(hI.bx.look).1 hl
   have h2s:=ah.strip (off::424242::n) h2
   simp only [ah] at h2
   obtain ⟨a,c,g1,rfl,g3,g4,g5⟩:=h2
   obtain ⟨u,k1,k2⟩:=(qg g4).1 _ hp
   simp only [ah] at k2
   subst k2
   refine ⟨_,EK (i:=off::424242::n) (sz:=w.size) h1 k1,?_⟩
   have hs:=hI.strip (off::424242::n)
   simp only [SV.strip,V.strip,ah] at h2s
   obtain ⟨a',c',e1,e2,e3,e4,e5⟩:=h2s
   cases e2
   have hoff:off<(V.stripL (off::424242::n) c).length:=by
    have:(V.stripL (off::424242::n) c)[off]? = some .nil:=by rw [fK,k1];rfl
    exact (List.getElem?_eq_some_iff.1 this).1
   have hlen:off+[V.own (off::424242::n) w.size []].length≤(V.stripL (off::424242::n) c).length:=hoff
   obtain ⟨q1,q2⟩:=mX (xs:=[V.own (off::424242::n) w.size []]) e4 hlen
   simp only [List.length_cons,List.length_nil,Nat.zero_add] at q1 q2 hlen
   have hbx:aG env (Ab.cO n (.mix t x (off::(iK off 1 os (SV.stripL (off::424242::n) zs)).1) (.own (off::424242::n) w.size w (.zero (.sl w))::(iK off 1 os (SV.stripL (off::424242::n) zs)).2)) (y.strip (off::424242::n)).bx)
     (Ab.cO n (.agg ((V.stripL (off::424242::n) c).set off (.own (off::424242::n) w.size []))) (s.strip (off::424242::n)).bx):=by
    refine aG.cO ?_ hs.bx
    rw [← JV hoff]
    simp only [ah]
    refine ⟨a',_,e1,rfl,by rw [kU hlen];exact e3,⟨off,_,rfl,⟨.own (off::424242::n) w.size [],by rw [gJ hlen,if_pos rfl],⟨[],rfl,rfl,rfl⟩⟩,q1⟩,fun i hi hn=>?_⟩
    simp only [List.mem_cons,not_or] at hn
    rw [gJ hlen,if_neg hn.1]
    exact e5 i hi fun hm=>by have:=q2 i hn.2 hm;omega
   refine ⟨hs.g,hs.rd,hs.n,hs.ts,hs.sv,?_,hs.lp,by simp only [Sa.dD,hs.ow],hs.vc⟩
   simp only [Sa.dD,h1]
   exact hbx
  ·exact ⟨s,Wk.refl,hI⟩
 ·exact ⟨s,Wk.refl,hI⟩
def Sy.dX (y:Sy) (n:Name) (off:Nat) (w:Ty):Sy:=match aj n y.bx with
 | some (.mix t x os zs)=>match oL off os zs with
  | some .nil=>{ y.strip (off::424242::n) with ow:=(off::424242::n)::(y.strip (off::424242::n)).ow,vc:=(off::424242::n,(w,.zero (.sl w)))::(y.strip (off::424242::n)).vc,bx:=Ab.cO n (.mix t x (off::(iK off 1 os (SV.stripL (off::424242::n) zs)).1) (.vsl (off::424242::n)::(iK off 1 os (SV.stripL (off::424242::n) zs)).2)) (y.strip (off::424242::n)).bx }
  | _=>y
 | _=>y
theorem Inst.dX (hI:Inst env y s) (n:Name) (off:Nat) (w:Ty):∃ s',Wk s s' ∧ Inst env (y.dX n off w) s':=by
 unfold Sy.dX
 split
 ·rename_i t x os zs hl
  split
  ·rename_i hp
   obtain ⟨v,h1,h2⟩:=(hI.bx.look).1 hl
   have h2s:=ah.strip (off::424242::n) h2
   simp only [ah] at h2
   obtain ⟨a,c,g1,rfl,g3,g4,g5⟩:=h2
   obtain ⟨u,k1,k2⟩:=(qg g4).1 _ hp
   simp only [ah] at k2
   subst k2
   refine ⟨_,Hf (i:=off::424242::n) (sz:=w.size) h1 k1,?_⟩
   have hs:=hI.strip (off::424242::n)
   simp only [SV.strip,V.strip,ah] at h2s
   obtain ⟨a',c',e1,e2,e3,e4,e5⟩:=h2s
   cases e2
   have hoff:off<(V.stripL (off::424242::n) c).length:=by
    have:(V.stripL (off::424242::n) c)[off]? = some .nil:=by rw [fK,k1];rfl
    exact (List.getElem?_eq_some_iff.1 this).1
   have hlen:off+[V.vsl (off::424242::n)].length≤(V.stripL (off::424242::n) c).length:=hoff
   obtain ⟨q1,q2⟩:=mX (xs:=[V.vsl (off::424242::n)]) e4 hlen
   simp only [List.length_cons,List.length_nil,Nat.zero_add] at q1 q2 hlen
   have hbx:aG env (Ab.cO n (.mix t x (off::(iK off 1 os (SV.stripL (off::424242::n) zs)).1) (.vsl (off::424242::n)::(iK off 1 os (SV.stripL (off::424242::n) zs)).2)) (y.strip (off::424242::n)).bx)
     (Ab.cO n (.agg ((V.stripL (off::424242::n) c).set off (.vsl (off::424242::n)))) (s.strip (off::424242::n)).bx):=by
    refine aG.cO ?_ hs.bx
    rw [← JV hoff]
    simp only [ah]
    refine ⟨a',_,e1,rfl,by rw [kU hlen];exact e3,⟨off,_,rfl,⟨.vsl (off::424242::n),by rw [gJ hlen,if_pos rfl],rfl⟩,q1⟩,fun i hi hn=>?_⟩
    simp only [List.mem_cons,not_or] at hn
    rw [gJ hlen,if_neg hn.1]
    exact e5 i hi fun hm=>by have:=q2 i hn.2 hm;omega
   refine ⟨hs.g,hs.rd,hs.n,hs.ts,hs.sv,?_,hs.lp,by simp only [Sa.dX,hs.ow],⟨[],_,rfl,rfl,hs.vc⟩⟩
   simp only [Sa.dX,h1]
   exact hbx
  ·exact ⟨s,Wk.refl,hI⟩
 ·exact ⟨s,Wk.refl,hI⟩
theorem Ip {n:Name} {off:Nat} {w:Ty}:(y.dX n off w).lp=y.lp:=by
 unfold Sy.dX
 split
 ·split <;> rfl
 ·rfl
theorem FN {n:Name} {off:Nat} {w:Ty}:(y.dD n off w).lp=y.lp:=by
 unfold Sy.dD
 split
 ·split <;> rfl
 ·rfl
def Di (l:List (Name×Nat×Ty×Bool)) (y:Sy):Sy:=l.foldl (fun y x=>if x.2.2.2 then y.dX x.1 x.2.1 x.2.2.1 else y.dD x.1 x.2.1 x.2.2.1) y
theorem yx:∀ {l:List (Name×Nat×Ty×Bool)} {y:Sy} {s:Sa},Inst env y s→∃ s',Wk s s' ∧ Inst env (Di l y) s'
 | [],y,s,h=>⟨s,Wk.refl,h⟩
 | x::l,y,s,h=>by
  have h1:∃ s',Wk s s' ∧ Inst env (if x.2.2.2 then y.dX x.1 x.2.1 x.2.2.1 else y.dD x.1 x.2.1 x.2.2.1) s':=by
   split
   ·exact h.dX _ _ _
   ·exact h.dD _ _ _
  obtain ⟨s1,w1,i1⟩:=h1
  obtain ⟨s2,w2,i2⟩:=yx (l:=l) i1
  exact ⟨s2,jG w1 w2,i2⟩
theorem yA:∀ {l:List (Name×Nat×Ty×Bool)} {y:Sy},(Di l y).lp=y.lp
 | [],y=>rfl
 | x::l,y=>(yA (l:=l)).trans (by
  show (if x.2.2.2 then y.dX x.1 x.2.1 x.2.2.1 else y.dD x.1 x.2.1 x.2.2.1).lp=_
  split
  ·exact Ip
  ·exact FN)
def Um (o:Nat) (z:SV):List Nat→List SV→List Nat×List SV
 | a::os,b::zs=>if Nat.blt o a then (o::a::os,z::b::zs) else (a::(Um o z os zs).1,b::(Um o z os zs).2)
 | _,_=>([o],[z])
def Iq:List Nat→List SV→List Nat×List SV
 | o::os,z::zs=>Um o z (Iq os zs).1 (Iq os zs).2
 | _,_=>([],[])
def SV.norm:SV→SV
 | .mix t x os zs=>.mix t x (Iq os zs).1 (Iq os zs).2
 | z=>z
theorem Qb {o:Nat} {z:SV} {c:List V} (hz:∃ v,c[o]? = some v∧ah env z v):∀ {zs:List SV} {os:List Nat},aV env os zs c→aV env (Um o z os zs).1 (Um o z os zs).2 c∧(o∈(Um o z os zs).1∧∀ i∈os,i∈(Um o z os zs).1)
 | [],os,h=>by
  simp only [aV] at h;subst h
  exact ⟨⟨o,[],rfl,hz,rfl⟩,by simp [Um],by simp⟩
 | b::zs,os,h=>by
  simp only [aV] at h
  obtain ⟨a,os',rfl,h2,h3⟩:=h
  simp only [Um]
  split
  ·exact ⟨⟨o,_,rfl,hz,⟨a,_,rfl,h2,h3⟩⟩,List.mem_cons_self,fun i hi=>List.mem_cons_of_mem _ hi⟩
  ·obtain ⟨g1,g2,g3⟩:=Qb hz h3
   refine ⟨⟨a,_,rfl,h2,g1⟩,List.mem_cons_of_mem _ g2,fun i hi=>?_⟩
   rcases List.mem_cons.1 hi with e | hi
   ·rw [e];exact List.mem_cons_self
   ·exact List.mem_cons_of_mem _ (g3 i hi)
theorem JW {c:List V}:∀ {zs:List SV} {os:List Nat},aV env os zs c→aV env (Iq os zs).1 (Iq os zs).2 c∧∀ i∈os,i∈(Iq os zs).1
 | [],os,h=>by simp only [aV] at h;subst h;exact ⟨rfl,by simp⟩
 | b::zs,os,h=>by
  simp only [aV] at h
  obtain ⟨a,os',rfl,h2,h3⟩:=h
  obtain ⟨g1,g2⟩:=JW h3
  obtain ⟨k1,k2,k3⟩:=Qb h2 g1
  refine ⟨k1,fun i hi=>?_⟩
  rcases List.mem_cons.1 hi with e | hi
  ·rw [e];exact k2
  ·exact k3 i (g2 i hi)
theorem ah.norm {x:SV} {v:V} (h:ah env x v):ah env x.norm v:=by
 cases x with
 | mix t x os zs =>
  simp only [ah] at h
  obtain ⟨a,c,g1,rfl,g3,g4,g5⟩:=h
  obtain ⟨k1,k2⟩:=JW g4
  simp only [SV.norm,ah]
  exact ⟨a,c,g1,rfl,g3,k1,fun i hi hn=>g5 i hi fun hm=>hn (k2 i hm)⟩
 | _=>exact h
theorem aG.ZC {κ:Type}:∀ {xs:List (κ×SV)} {vs:List (κ×V)},aG env xs vs→aG env (xs.map fun x=>(x.1,x.2.norm)) vs
 | [],vs,h=>h
 | (k,x)::xs,vs,h=>by
  simp only [aG] at h
  obtain ⟨v,vs',rfl,h2,h3⟩:=h
  exact ⟨v,vs',rfl,h2.norm,h3.ZC⟩
end
end Go.Tx
namespace Go.Tx
open Go Go.Ab
inductive Spec where
 | clo (ts te:TypeId)
 | ins (ts te ti:TypeId)
 | turn (g:Nat) (w:Ty) (as:List Ty) (rty:Ty)
 | del (te:TypeId)
 | vec
def JX (P:Program) (f:FuncId):Spec→Prop
 | .clo ts te=>LD P f ts te
 | .ins ts te ti=>WI P f ts te ti
 | .turn g _ _ _=>g=f
 | .del te=>Lu P f te
 | .vec=>True
def GK (P:Program) (sp:FuncId→Option Spec):Prop:=∀ f x,sp f=some x→JX P f x
theorem GK.none {P:Program}:GK P (fun _=>Option.none):=fun _ _ h=>by cases h
def Sy.bG (y:Sy) (n:Name) (w:Ty):Sy:={ ((y.strip n).more [.sl w]) with ow:=n::(y.strip n).ow,vc:=(n,(w,.var y.g.length))::(y.strip n).vc }
def vI (P:Program) (nm:Name) (sp:Spec) (args:List SV) (y:Sy):Option (Bs×Sy×SV) :=
 match sp with
 | .clo ts te=>match args with
  | [z]=>match asS (tyD P ts) z with
   | some (w,ye)=>if w.size=tsz P te∧fC P te≠0 then some ([(.r2 (.app (fC P te)) (.zero (.sl w)) ye,.sl w)],y.bG nm w,.vsl nm) else none
   | none=>none
  | _=>none
 | .ins ts te ti=>match args with
  | [.vsl n,iz,z]=>match aj n y.vc,asI iz,asS (tyD P ts) z with
   | some (w',l),some (q,i),some (w,ye)=>if q = .i64∧w=w' ∧ w.size=tsz P te∧fC P te≠0 then some ([(.r3 (.ins (fC P te)) l i ye,.sl w)],y.bG n w,.vsl n) else none
   | _,_,_=>none
  | _=>none
 | .turn g w as rty=>match args with
  | .vsl n::zs=>match aj n y.vc,Ii as zs with
   | some (u,q),some es=>if u=w∧Py rty=true then some ([(.call (g+1000000) (q::es),.prod (.sl w) rty)],{ y.more [.prod (.sl w) rty] with vc:=Ab.cO n (w,.p1 .fst (.var y.g.length)) y.vc },aa6 rty (.p1 .snd (.var y.g.length))) else none
   | _,_=>none
  | _=>none
 | .vec=>none
 | .del te=>match args with
  | [.vsl n,iz,jz]=>match aj n y.vc,asI iz,asI jz with
   | some (w,l),some (q,i),some (r,j)=>if q = .i64∧r = .i64∧w.size=1 then some ([(.r3 .del l i j,.sl w)],y.bG n w,.vsl n) else none
   | _,_,_=>none
  | _=>none
section
variable {P:Program} {S:tV} {CS:Calls'} {env:List Val} {y:Sy} {s:Sa} {p:Name}
theorem yB {v:V} {xs:List D} (h:sliceOf v=some xs):v.toD=some (.sl xs):=by
 unfold sliceOf at h
 split at h <;> first | (cases h;rfl) | cases h
theorem Inst.bG (hI:Inst env y s) (n:Name) (w:Ty) (a:List w.den) (sz:Nat) (hw:w.size=sz):Inst (env++[⟨.sl w,a⟩]) (y.bG n w) (s.bG n sz (a.map (bD w))):=by
 have h4:=(hI.strip n).snoc (⟨.sl w,a⟩:Val)
 exact ⟨h4.g,h4.rd,h4.n,h4.ts,h4.sv,h4.bx,h4.lp,by have:=h4.ow;simp only [Sy.more] at this;simp only [Sy.bG,Sa.bG,Sy.more,this],⟨a,_,by rw [← hw];rfl,by rw [← hI.len];exact qh rfl,h4.vc⟩⟩
theorem Qc {g:FuncId} {sp:Spec} {args:List SV} {nm:Name} {bs:Bs} {y1:Sy} {z1:SV} {vs:List V} {k:V→Sa→Prop} (hs:JX P g sp) (h:vI P nm sp args y=some (bs,y1,z1)) (hI:Inst env y s) (hargs:aB env args vs)
  (hb:iP (dF P) bs env fun e=>∀ s' v,Inst e y1 s' → ah e z1 v→k v s'):nJ P p g vs s k:=by
 cases sp with
 | vec=>simp [vI] at h
 | del te =>
  simp only [vI] at h
  split at h
  ·rename_i n iz jz
   split at h
   ·rename_i w l q i r j hl hi hj
    split at h
    ·rename_i hc
     obtain ⟨c0,c1,c2⟩:=hc
     subst c0;subst c1
     cases h
     simp only [aB] at hargs
     obtain ⟨v1,vs',rfl,h1,v2,vs'',rfl,h2,v3,vs3,rfl,h3,rfl⟩:=hargs
     simp only [ah] at h1
     subst h1
     obtain ⟨al,e1,e2⟩:=(hI.vc.look).1 hl
     obtain ⟨ii,i1,rfl⟩:=nH hi h2
     obtain ⟨jj,j1,rfl⟩:=nH hj h3
     obtain ⟨r,r1,r2,r3⟩:=bQ hI.len hb
     obtain ⟨a',b',d',rr,cc,x1,x2,x3,x4,x5,x6⟩:=r1
     rw [e1] at x1;cases x1
     rw [i1] at x2;cases x2
     rw [j1] at x3;cases x3
     simp only [LZ,Option.some.injEq] at x4
     subst x4
     simp only at x5
     split at x5
     ·rename_i hle
      cases x5;cases x6
      obtain ⟨g1,g2,g3⟩:=hle
      rw [c2] at e2
      refine Ou hs e2 g1 g2 (by rw [List.length_map];exact g3) ?_
      have h5:=hI.bG n w (al.take ii.toNat++al.drop jj.toNat) 1 c2
      rw [List.map_append,List.map_take,List.map_drop] at h5
      exact r2 _ _ h5 rfl
     ·cases x5
    ·cases h
   ·cases h
  ·cases h
 | turn g' w as rty =>
  simp only [vI] at h
  split at h
  ·rename_i n zs
   split at h
   ·rename_i u q es hl hes
    split at h
    ·rename_i hc
     obtain ⟨rfl,hro⟩:=hc
     cases h
     simp only [JX] at hs
     subst hs
     simp only [aB] at hargs
     obtain ⟨v1,vs',rfl,h1,h2⟩:=hargs
     simp only [ah] at h1
     subst h1
     obtain ⟨al,e1,e2⟩:=(hI.vc.look).1 hl
     obtain ⟨us,e3,e4,e5⟩:=wG hes h2
     obtain ⟨r,r1,r2,r3⟩:=bQ hI.len hb
     obtain ⟨vs2,x1,x2⟩:=r1
     simp only [evs,e1,e3,Option.some.injEq] at x1
     subst x1
     obtain ⟨w',xs,us',rty',ys,r',e6,e7,hT⟩:=PE rfl x2
     cases e6;cases e7
     have hf:(E.p1 .fst (.var y.g.length)).val (env++[(⟨.prod (.sl u) rty,(ys,r')⟩:Val)])=some ⟨.sl u,ys⟩:=by show app1 .fst ((E.var y.g.length).val _)=_;rw [r3];rfl
     have hsn:(E.p1 .snd (.var y.g.length)).val (env++[(⟨.prod (.sl u) rty,(ys,r')⟩:Val)])=some ⟨rty,r'⟩:=by show app1 .snd ((E.var y.g.length).val _)=_;rw [r3];rfl
     refine Ll hT e2 e5 (r2 _ _ ?_ (Ih hro hsn))
     have h4:=hI.snoc (⟨.prod (.sl u) rty,(ys,r')⟩:Val)
     exact ⟨h4.g,h4.rd,h4.n,h4.ts,h4.sv,h4.bx,h4.lp,h4.ow,fB.set hf h4.vc⟩
    ·cases h
   ·cases h
  ·cases h
 | clo ts te =>
  simp only [vI] at h
  split at h
  ·rename_i z
   split at h
   ·rename_i w ye has
    split at h
    ·rename_i hc
     obtain ⟨c1,c2⟩:=hc
     cases h
     simp only [aB] at hargs
     obtain ⟨v,vs',rfl,h1,rfl⟩:=hargs
     obtain ⟨ys,f1,f2⟩:=vG has h1
     obtain ⟨r,r1,r2,r3⟩:=bQ hI.len hb
     obtain ⟨a',b',rr,cc,x1,x2,x3,x4,x5⟩:=r1
     have e1:(E.zero (.sl w)).val env=some ⟨.sl w,[]⟩:=rfl
     rw [e1] at x1;cases x1
     rw [f1] at x2;cases x2
     simp only [CB,dif_pos,if_pos c2,Option.some.injEq] at x3
     subst x3
     simp only at x4
     split at x4
     ·rename_i hle
      cases x4;cases x5
      simp only [List.length_nil,Nat.zero_add] at hle
      have hall:∀ d∈ys.map (bD w),d.cells.length=tsz P te:=fun d hd=>by
       obtain ⟨q,_,rfl⟩:=List.mem_map.1 hd
       rw [aF,ak];exact c1
      have hlen:ys.length≤9223372036854775807:=by
       have:=Nat.le_mul_of_pos_right ys.length (Nat.pos_of_ne_zero c2)
       omega
      have hm:=LD.make (xs:=ys.map (bD w)) hs hall (by rw [List.length_map];exact hle) (by rw [List.length_map];exact hlen)
      refine hm p [v] s nm k (by simp only [eX,yB f2]) ?_
      have h5:=hI.bG nm w ([]++ys) (tsz P te) c1
      exact r2 _ _ h5 rfl
     ·cases x4
    ·cases h
   ·cases h
  ·cases h
 | ins ts te ti =>
  simp only [vI] at h
  split at h
  ·rename_i n iz z
   split at h
   ·rename_i w' l q i w ye hl hi has
    split at h
    ·rename_i hc
     obtain ⟨c0,c1,c2,c3⟩:=hc
     subst c0;subst c1
     cases h
     simp only [aB] at hargs
     obtain ⟨v1,vs',rfl,h1,v2,vs'',rfl,h2,v3,vs3,rfl,h3,rfl⟩:=hargs
     simp only [ah] at h1
     subst h1
     obtain ⟨al,e1,e2⟩:=(hI.vc.look).1 hl
     obtain ⟨ii,i1,rfl⟩:=nH hi h2
     obtain ⟨ys,f1,f2⟩:=vG has h3
     obtain ⟨r,r1,r2,r3⟩:=bQ hI.len hb
     obtain ⟨a',b',d',rr,cc,x1,x2,x3,x4,x5,x6⟩:=r1
     rw [e1] at x1;cases x1
     rw [i1] at x2;cases x2
     rw [f1] at x3;cases x3
     simp only [LZ,dif_pos,if_pos c3,Option.some.injEq] at x4
     subst x4
     simp only at x5
     split at x5
     ·rename_i hle
      cases x5;cases x6
      obtain ⟨g1,g2,g3⟩:=hle
      have hall:∀ d∈ys.map (bD w),d.cells.length=tsz P te:=fun d hd=>by
       obtain ⟨q,_,rfl⟩:=List.mem_map.1 hd
       rw [aF,ak];exact c2
      have hlen:al.length+ys.length≤9223372036854775807:=by
       have:=Nat.le_mul_of_pos_right (al.length+ys.length) (Nat.pos_of_ne_zero c3)
       omega
      refine Ot hs (by rw [e2,c2]) g1 (by rw [List.length_map];exact g2) (yB f2) hall (by rw [List.length_map,List.length_map];exact g3) (by rw [List.length_map,List.length_map];exact hlen) ?_
      have h5:=hI.bG n w (al.take ii.toNat++ys++al.drop ii.toNat) (tsz P te) c2
      rw [List.map_append,List.map_append,List.map_take,List.map_drop] at h5
      exact r2 _ _ h5 rfl
     ·cases x5
    ·cases h
   ·cases h
  ·cases h
end
end Go.Tx
namespace Go.Tx
open Go Go.Ab
section
variable {env:List Val}
end
end Go.Tx
namespace Go.Ab
open Go Go.RowKit
variable {P:Program} {w:World} {n:Nat} {Mo:Cells} {m:Mp} {s:Sa} {as:List Act} {p:Name}
theorem kR.Un {f:FuncId} {fn:Func} {c:Code} {ds rs:List D} (q:Name) (hf:P.funcs[f]? = some fn) (hb:fn.body=some c) (hle:ds.length≤fn.ntmps)
  (h:(∀ i (hi:i<ds.length),ds[i].wf)→TC P q c (s0 fn.ntmps ds) (Out P fn.results.toList rs)):kR P f ds rs:=by
 intro M w n vs hlt hs hr
 refine callsIn_of_wp_marks hf hb trivial ?_ rfl
 have h0:=EI (m:=⟨fun _=>0,fun _=>(0,0,0),fun _=>0,fun _=>(none,0,0)⟩) fn.ntmps hlt hs hr hle
 have h1:=h (fun i hi=>(hr i hi).wf) M _ _ _ w n h0
 refine wpIn_mono h1 ?_
 rintro e a' w' ⟨ex,m',s',he,⟨hex,hres⟩,hR',hst,_,hmk⟩
 have hB:∀ d∈a'.defers,∃ r,d={ target:=.collected r,args:=#[] }∧w.heap.size≤r:=fun d hd=>by
  rcases hmk d hd with h | h
  ·simp at h
  ·exact h
 have hfin:LeavesInM (Wd none) n P fn a'.tmps (fun e w'=>∃ c,e = .returned c∧Below w.heap.size w w' ∧ ∀ m,aU w' M m (iU (rs.map .d)) c) a'.defers .returning w':=by
  refine leaves w.heap.size hres a'.defers a' w' rfl hR' hB (fun vs c w2 hk hR2 hv hb=>?_)
  have hst2:=hst.after hb
  refine ⟨c,rfl,⟨hst2.keeps.os,hst2.keeps.tape,hst2.keeps.output,hst2.keeps.size,fun b hb'=>hst2.keeps.blk b hb' (fun o ho=>?_) (fun hl=>?_)⟩,EH (hv.mono (fun b o x hx hm=>⟨hx,fun ht=>hm (.inl ht)⟩) (fun _ _=>rfl) (fun _ _ _ _ h=>h) (fun _ _=>rfl)) hk⟩
  ·rcases ho with ⟨nm,c,hn,_⟩ | ⟨i,hi,_⟩
   ·simp [s0,aj] at hn
   ·simp [s0] at hi
  ·obtain ⟨l,q,hl,_⟩:=hl
   simp [s0,aj] at hl
 cases e with
 | normal=>cases he;exact hfin
 | ret=>cases he;exact hfin
 | exit i=>cases he;exact hex.elim
 | goto l=>cases he
 | panic c=>cases he
 | outgrown=>cases he
theorem vJ {f:FuncId} {fn:Func} {c:Code} {args:List V} {k:V→Sa→Prop} (q:Name) (hf:P.funcs[f]? = some fn) (hb:fn.body=some c) (hle:args.length≤fn.ntmps)
  (h:TC P q c (s.push fn.ntmps (xk 0 args)) (Left k P fn.results.toList s)):nJ P p f args s k:=by
 intro Mo m as w n vs r hR hargs
 refine dK (callsIn_of_wp_marks hf hb trivial ?_ rfl)
 have h0:=hR.push fn.ntmps hargs hle
 have h1:=h Mo m _ as w n h0
 have hrd:bf m (s.push fn.ntmps (xk 0 args))=none:=rfl
 rw [hrd] at h1
 refine wpIn_mono h1 ?_
 rintro e a' w' ⟨ex,m',s',he,⟨hex,hsvl,hlpn,hres⟩,hR',hst,_,hmk⟩
 have hB:∀ d∈a'.defers,∃ r,d={ target:=.collected r,args:=#[] }∧w.heap.size≤r:=fun d hd=>by
  rcases hmk d hd with h | h
  ·simp at h
  ·exact h
 have hne:s'.sv≠[]:=fun e=>by rw [e] at hsvl;simp at hsvl
 have hfin:LeavesInM (Wd none) n P fn a'.tmps (pI Mo m s as w k) a'.defers .returning w':=by
  refine leaves w.heap.size hres a'.defers a' w' rfl hR' hB (fun vs c w2 hk hR2 hv hb=>?_)
  have hdep:∀ l q,aj l s'.lp=some q→q.depth+1<as.length:=by
   intro l q hl
   obtain ⟨q0,h1,h2⟩:=su hlpn hl
   rw [← h2];exact hR.dep l q0 h1
  have hpop:=hR2.pop hne hdep
  obtain ⟨g,gs,hsv⟩:=List.exists_cons_of_ne_nil hne
  have hsvrd:=hst.svrd
  rw [hsv] at hsvrd
  simp only [Sa.push,List.map_cons,List.cons.injEq] at hsvrd
  have hbx:s'.pop.bx=s'.bx∧s'.pop.ow=s'.ow∧s'.pop.lp=s'.lp∧s'.pop.rd=s.rd∧s'.pop.sv.map (·.rd)=s.sv.map (·.rd):=by
   simp only [Sa.pop,hsv];exact ⟨trivial,trivial,trivial,hsvrd.1,hsvrd.2⟩
  have hst2:=hst.after hb
  have hlpm:∀ l,some l∈rds s→m'.lp l=m.lp l:=fun l hl=>hst.lpm l (by
   simp only [rds,Sa.push,List.map_cons,List.mem_cons] at hl ⊢
   exact .inr hl)
  refine ⟨c,iU vs,m',s'.pop,rfl,hk,hpop,by rw [hbx.1,hbx.2.1];exact hv,⟨hst2.keeps,by rw [hbx.1,hbx.2.1];exact hst2.mt,by rw [hbx.2.2.1];exact hst2.lp,hbx.2.2.2.1,hbx.2.2.2.2,hlpm⟩,?_⟩
  simp only [bf,hbx.2.2.2.1]
  cases hrs:s.rd with
  | none=>rfl
  | some l=>simp only [Option.map_some,hlpm l (by simp [rds,hrs])]
 cases e with
 | normal=>cases he;exact hfin
 | ret=>cases he;exact hfin
 | exit i=>cases he;exact hex.elim
 | goto l=>cases he
 | panic c=>cases he
 | outgrown=>cases he
def Qd (P:Program) (p:Name) (l:Name) (q:Lp) (s:Sa) (k:V→Sa→Prop) (e:Ex) (s1:Sa):Prop :=
 match e with
 | .norm=>match aj l s1.lp with
  | some q1=>q1.pending=none∧q1.body=q.body∧TC P p q.body (aT s1 l { q1 with pending:=some none }) (abD l s k)
  | none=>False
 | _=>False
theorem Ir {l:Name} {q:Lp} {f:Fr} {args:List V} {k:V→Sa→Prop} (qn:Name) (hl:aj l s.lp=some q) (hf:(frames s).reverse[q.depth]? = some f)
  (hps:∀ t∈q.ps.toList,t<f.n) (hlen:args.length=q.ps.size)
  (h:TC P qn q.assign (s.round l f q.ps.toList args) (Qd P qn l q s k)):aaI P p l args s k:=by
 intro Mo m as w n vs r hR hargs
 obtain ⟨rec,a,hx⟩:=hR.lps l q hl
 refine ⟨rec,hx.heap,by rw [hargs.1,hx.ps,hlen],?_⟩
 refine roundIn_of_wpIn trivial ?_
 have hz:(rec.params.zip vs).foldl (fun tmps (x:Tmp×Value)=>tmps.setIfInBounds x.1 x.2) rec.tmps=(q.ps.toList.zip vs.toList).foldl (fun tmps x=>tmps.setIfInBounds x.1 x.2) rec.tmps:=by
  rw [← Array.foldl_toList,Array.toList_zip,hx.ps]
 have h0:=hR.round hl hx hf hps hlen hargs
 have h1:=h Mo m _ as w n h0
 have hrd:bf m (s.round l f q.ps.toList args)=some (m.lp l):=rfl
 rw [hrd] at h1
 have hasg:rec.assign=q.assign:=hx.assign
 have hbod:rec.body=q.body:=hx.body
 rw [hasg,hbod]
 have e0:((rec.params.zip vs).foldl (fun tmps (t,a)=>tmps.setIfInBounds t a) rec.tmps)=(q.ps.toList.zip vs.toList).foldl (fun tmps x=>tmps.setIfInBounds x.1 x.2) rec.tmps:=hz
 rw [e0]
 refine wpIn_mono h1 ?_
 rintro e a1 w1 ⟨ex,m1,s1,he,hk,hR1,hst1,hrd1,_⟩
 cases ex with
 | exit i=>exact hk.elim
 | ret=>exact hk.elim
 | norm =>
  have en:e = .normal:=by cases e <;> simp [abA] at he;rfl
  subst en
  simp only [Qd] at hk
  split at hk
  ·rename_i q1 hq1
   obtain ⟨hp1,hb1,hk⟩:=hk
   have hs1rd:s1.rd=some l:=hst1.rd
   have hm1:m1.lp l=m.lp l:=by
    have:bf m1 s1=some (m.lp l):=hrd1
    simp only [bf,hs1rd,Option.map_some,Option.some.injEq] at this;exact this
   obtain ⟨rc1,b1,hx1⟩:=hR1.lps l q1 hq1
   have hstat:=hx1.stat
   rw [hp1] at hstat
   refine ⟨_,by rw [← hm1];exact run_beginRound hx1.heap hstat.1,?_⟩
   have hR2:=hR1.xA (q':={ q1 with pending:=some none }) (r':={ rc1 with state:=.busy }) hq1 hx1.heap ⟨rfl,rfl,rfl,rfl⟩ ⟨rfl,rfl,rfl,rfl⟩ rfl
   have hlt1:m1.lp l<w1.heap.size:=(Array.getElem?_eq_some_iff.1 hx1.heap).1
   have hst2:=hst1.trans (Step.xA (q':={ q1 with pending:=some none }) (r':={ rc1 with state:=.busy }) hq1 hlt1)
   have h2:=hk Mo m1 a1 as _ n hR2
   have hrd2:bf m1 (aT s1 l { q1 with pending:=some none })=some (m.lp l):=hrd1
   rw [hrd2] at h2
   rw [← hm1]
   rw [← hm1] at h2
   refine wpIn_mono h2 ?_
   rintro e2 a2 w2 ⟨ex2,m2,s2,he2,hk2,hR3,hst3,hrd3,_⟩
   obtain ⟨hsvl,hlpn,hk2⟩:=hk2
   split at hk2
   ·rename_i q2 hq2
    obtain ⟨rc2,b2,hx2⟩:=hR3.lps l q2 hq2
    have hs2rd:s2.rd=some l:=hst3.rd.trans hs1rd
    have hm2:m2.lp l=m1.lp l:=by
     rw [hrd2] at hrd3
     simp only [bf,hs2rd,Option.map_some,Option.some.injEq] at hrd3;rw [hrd3,hm1]
    have hlt2:m2.lp l<w2.heap.size:=(Array.getElem?_eq_some_iff.1 hx2.heap).1
    have hstt:=hst2.trans hst3
    have fin:∀ (j:Option Code) (q3:Lp),jmp ex2=(match j with | none=>none | some c=>some (some c))→q3={ q2 with pending:=jmp ex2 }→OA ex2=j.isNone →
      ∃ v w',(Instr.endRound (m1.lp l) j).run P w2 = .ok v w' ∧ pI Mo m s as w k (.returned v) w':=by
     intro j q3 hj hq3 hg
     refine ⟨_,_,by rw [← hm2];exact run_endRound j hx2.heap,?_⟩
     have hR4:=hR3.xA (q':=q3) (r':={ rc2 with state:=if j.isNone then .ready else .done,pending:=j }) hq2 hx2.heap (by rw [hq3];exact ⟨rfl,rfl,rfl,rfl⟩) ⟨rfl,rfl,rfl,rfl⟩ (by
      rw [hq3];simp only [hj]
      cases j with
      | none=>exact ⟨rfl,rfl⟩
      | some c=>exact ⟨rfl,rfl⟩)
     have hst4:=hstt.trans (Step.xA (q':=q3) (r':={ rc2 with state:=if j.isNone then .ready else .done,pending:=j }) hq2 hlt2)
     have hne:(aT s2 l q3).sv≠[]:=fun e=>by simp only [aT] at e;rw [e] at hsvl;simp at hsvl
     have hlp3:lpD (aT s2 l q3).lp=lpD s.lp:=by rw [← hlpn];exact Tv l q2 q3 (by rw [hq3]) _ hq2
     have hdep:∀ nm x,aj nm (aT s2 l q3).lp=some x→x.depth+1<as.length:=by
      intro nm x hx
      obtain ⟨q0,e1,e2⟩:=su hlp3 hx
      rw [← e2];exact hR.dep nm q0 e1
     have hpop:=hR4.pop hne hdep
     obtain ⟨g,gs,hsv⟩:=List.exists_cons_of_ne_nil hne
     have hsvrd:=hst4.svrd
     rw [hsv] at hsvrd
     simp only [Sa.round,List.map_cons,List.cons.injEq] at hsvrd
     have hbx:(aT s2 l q3).pop.bx=(aT s2 l q3).bx∧(aT s2 l q3).pop.ow=(aT s2 l q3).ow∧(aT s2 l q3).pop.lp=(aT s2 l q3).lp∧(aT s2 l q3).pop.rd=s.rd∧(aT s2 l q3).pop.sv.map (·.rd)=s.sv.map (·.rd):=by
      simp only [Sa.pop,hsv];exact ⟨trivial,trivial,trivial,hsvrd.1,hsvrd.2⟩
     have hlpm:∀ nm,some nm∈rds s→m2.lp nm=m.lp nm:=fun nm hnm=>hst4.lpm nm (by
      simp only [rds,Sa.round,List.map_cons,List.mem_cons] at hnm ⊢
      exact .inr hnm)
     refine ⟨.bool j.isNone,.d (.b (OA ex2)),m2,(aT s2 l q3).pop,rfl,by rw [hq3];exact hk2,hpop,by rw [hg];exact .d (.v trivial),
      ⟨hst4.keeps,by rw [hbx.1,hbx.2.1];exact hst4.mt,by rw [hbx.2.2.1];exact hst4.lp,hbx.2.2.2.1,hbx.2.2.2.2,hlpm⟩,?_⟩
     simp only [bf,hbx.2.2.2.1]
     cases hrs:s.rd with
     | none=>rfl
     | some l=>simp only [Option.map_some,hlpm l (by simp [rds,hrs])]
    cases e2 with
    | normal=>cases he2;exact fin none _ rfl rfl rfl
    | ret=>cases he2;exact fin (some .ret) _ rfl rfl rfl
    | exit i=>cases he2;exact fin (some (.exit i)) _ rfl rfl rfl
    | goto l=>cases he2
    | panic c=>cases he2
    | outgrown=>cases he2
   ·exact hk2.elim
  ·exact hk.elim
theorem Dj {g:Operand} {ps:Array Tmp} {assign body:Code} {gf:FuncId} {cap:List V} {fn:Func} {c:Code} {Q:Ex→Sa→Prop} (l qn:Name) (hrd:s.rd=none) (hrs:some l ∉ rds s) (hl:aj l s.lp=none) (hy:s.jC l=false)
  (hg:s.get g = .fn gf cap) (hycap:V.jv l cap=false) (hcal:callable P gf=true) (hf:P.funcs[gf]? = some fn) (hb:fn.body=some c) (hle:(V.yld l::cap).length≤fn.ntmps)
  (h:TC P qn c (s.dU l fn.ntmps (.yld l::cap) ⟨s.sv.length,ps,assign,body,none⟩) (Cc P qn fn.results.toList l s Q)):TC P p (.rangeFunc g ps assign body) s Q:=by
 intro Mo m a sv w n hR
 have hrd0:bf m s=none:=by simp [bf,hrd]
 rw [hrd0]
 refine wpIn_rangeFunc (fun fnid _=>?_)
 have hgv:=hR.operand g
 rw [hg] at hgv
 obtain ⟨cs,e,hs,hrep⟩:=hgv.NY
 have he:=run_enterLoop_outer (P:=P) (w:=w) fnid a.tmps ps assign body
 generalize hw1:((w.alloc (.deferred (some []))).alloc (.loop { state:=.ready,pending:=none,fn:=fnid,tmps:=a.tmps,params:=ps,assign,body,defers:=w.heap.size }))=w1 at he
 have hbl:Below w.heap.size w w1:=by rw [← hw1];exact ((Below.refl _ _).alloc (Nat.le_refl _) _).alloc (by simp) _
 have hB:w1.heap[w.heap.size]? = some (.deferred (some [])):=by
  rw [← hw1]
  have h1:=World.alloc_heap_new w (.deferred (some []))
  exact aQ (fE _ _) h1
 have hN:w1.heap[w.heap.size+1]? = some (.loop { state:=.ready,pending:=none,fn:=fnid,tmps:=a.tmps,params:=ps,assign,body,defers:=w.heap.size }):=by
  rw [← hw1]
  have h1:=World.alloc_heap_new (w.alloc (.deferred (some []))) (.loop { state:=.ready,pending:=none,fn:=fnid,tmps:=a.tmps,params:=ps,assign,body,defers:=w.heap.size })
  simpa using h1
 refine ⟨w.heap.size+1,[{ target:=.collected w.heap.size,args:=#[] }],w1,{ target:=.fn (.func gf) cs,args:=#[.func (.yield (w.heap.size+1)) #[] #[]] },w1,gf,#[.func (.yield (w.heap.size+1)) #[] #[]]++cs,w1,he,?_,fun _ _=>trivial,?_,pK,?_⟩
 ·have e1:a.eval (.const (.func (.yield (w.heap.size+1)) #[] #[])) = .func (.yield (w.heap.size+1)) #[] #[]:=rfl
  simp [resolve,e,Deferred.ofValue,e1]
 ·simp only [invoke];exact kQ hcal _
 have hyall:=Sa.Jq hy
 have hargs:jQ w1 (Tot Mo s.bx s.ow m) (m.aT l (w.heap.size+1)) (.yld l::cap) (#[.func (.yield (w.heap.size+1)) #[] #[]]++cs):=by
  refine ⟨by simp [hs];omega,fun i hi=>?_⟩
  cases i with
  | zero =>
   have:(m.aT l (w.heap.size+1)).lp l=w.heap.size+1:=by simp [Mp.aT]
   simp only [List.getElem_cons_zero]
   have h0:=@aU.yld w1 (Tot Mo s.bx s.ow m) (m.aT l (w.heap.size+1)) l
   rw [this] at h0
   have e2:(#[Value.func (.yield (w.heap.size+1)) #[] #[]]++cs).getD 0 undef=Value.func (.yield (w.heap.size+1)) #[] #[]:=by
    rw [Array.getD_eq_getD_getElem?,Array.getElem?_append_left (by simp)];rfl
   rw [e2];exact h0
  | succ i =>
   have hi' : i<cap.length:=by simpa using hi
   have h0:=(hrep i hi').LP (w':=w1) (l:=l) (N:=w.heap.size+1) (fun hx=>V.lW l cap hycap (pz hi' hx)) hbl
   simp only [List.getElem_cons_succ]
   rw [Array.getD_eq_getD_getElem?] at h0 ⊢
   rw [Array.getElem?_append_right (by simp)]
   simpa using h0
 have h0:=hR.dU (ps:=ps) (assign:=assign) (body:=body) (nt:=fn.ntmps) hyall hl hbl hB (Nat.le_refl _) hN (by omega) ⟨rfl,rfl,rfl,rfl,rfl,rfl⟩ hargs hle
 refine callsIn_of_wp_marks hf hb trivial ?_ rfl
 have h1:=h Mo (m.aT l (w.heap.size+1)) _ _ w1 (n - 1) h0
 have hrd1:bf (m.aT l (w.heap.size+1)) (s.dU l fn.ntmps (.yld l::cap) ⟨s.sv.length,ps,assign,body,none⟩)=none:=rfl
 rw [hrd1] at h1
 refine wpIn_mono h1 ?_
 rintro e a' w' ⟨ex,m',s',hex,⟨hexx,hsvl,hlpn,hres⟩,hR',hst,_,hmk⟩
 have hmarks:∀ d∈a'.defers,∃ r,d={ target:=.collected r,args:=#[] }∧w1.heap.size≤r:=fun d hd=>by
  rcases hmk d hd with h | h
  ·simp at h
  ·exact h
 have hfin:LeavesInM (Wd none) (n - 1) P fn a'.tmps (rangePost (Wd none) n P (w.heap.size+1) (kM Mo m s a.defers sv w Q) { a with defers:=[{ target:=.collected w.heap.size,args:=#[] }]++a.defers }) a'.defers .returning w':=by
  refine leaves w1.heap.size hres a'.defers a' w' rfl hR' hmarks (fun vs cc w2 hk hR2 hv hb2=>?_)
  split at hk
  ·rename_i l0 q tl hlp
   have hl0:l0=l∧q.depth=s.sv.length∧lpD tl=lpD s.lp:=by
    rw [hlp] at hlpn
    simp only [lpD,List.map_cons,List.cons.injEq,Prod.mk.injEq] at hlpn
    exact ⟨hlpn.1.1,hlpn.1.2,hlpn.2⟩
   obtain ⟨rfl,hqd,htl⟩:=hl0
   have hlook:aj l0 s'.lp=some q:=by rw [hlp];simp [aj]
   have hmlp:m'.lp l0=w.heap.size+1:=by
    have:=hst.lpm l0 (by simp [rds,Sa.dU])
    rw [this];simp [Mp.aT]
   obtain ⟨rc,b,hx⟩:=hR2.lps l0 q hlook
   have hnb:rc.state ≠ .busy:=by
    have:=hx.stat
    split at this
    ·rw [this.1];decide
    ·rw [this.1];decide
    ·rename_i hp;rw [hp] at hk;exact hk.elim
   have hend:=run_endLoop (P:=P) hx.heap hnb
   have hR3:=hR2.Jr (r':={ rc with state:=.exhausted }) hlp (wz htl.symm hl) hx.heap
   have hne:({ s' with lp:=tl }:Sa).sv≠[]:=fun e=>by simp only at e;rw [e] at hsvl;simp at hsvl
   have hdep:∀ nm x,aj nm ({ s' with lp:=tl }:Sa).lp=some x→x.depth+1<({ a with defers:={ target:=.collected w.heap.size,args:=#[] }::a.defers }::sv).length:=by
    intro nm x hx
    obtain ⟨q0,e1,e2⟩:=su htl hx
    rw [← e2];exact hR.dep nm q0 e1
   have hpop:=(hR3.pop hne hdep).TA none
   obtain ⟨g,gs,hsv⟩:=List.exists_cons_of_ne_nil hne
   simp only at hsv
   have hout:({ ({ s' with lp:=tl }:Sa).pop with rd:=none }:Sa)=s'.dQ:=by
    simp [Sa.pop,Sa.dQ,hsv,hlp]
   rw [hout] at hpop
   have hsvrd:=hst.svrd
   rw [hsv] at hsvrd
   simp only [Sa.dU,List.map_cons,List.cons.injEq] at hsvrd
   have hbx:s'.dQ.bx=s'.bx∧s'.dQ.ow=s'.ow∧s'.dQ.lp=tl∧s'.dQ.rd=none∧s'.dQ.sv.map (·.rd)=s.sv.map (·.rd):=by
    simp only [Sa.dQ,hsv,hlp,List.tail_cons];exact ⟨trivial,trivial,trivial,trivial,hsvrd.2⟩
   have hstep1:Step m s w (m.aT l0 (w.heap.size+1)) { s with lp:=(l0,⟨s.sv.length,ps,assign,body,none⟩)::s.lp } w1:=by
    refine ⟨.of_below hbl,fun b o _ hm=>hm,?_,rfl,rfl,?_⟩
    ·rintro b hb ⟨nm,x,hx,rfl⟩
     simp only [aj] at hx
     split at hx
     ·rename_i e;subst e
      simp only [Mp.aT,if_true] at hb
      omega
     ·rename_i e
      refine ⟨nm,x,hx,?_⟩
      simp only [Mp.aT]
      rw [if_neg (Ne.symm e)]
    ·intro nm hnm
     have:nm≠l0:=fun e=>hrs (e ▸ hnm)
     simp [Mp.aT,this]
   have hkp:Keeps w1 w2 (Mut s.bx s.ow (m.aT l0 (w.heap.size+1))) (LpB ((l0,⟨s.sv.length,ps,assign,body,none⟩)::s.lp) (m.aT l0 (w.heap.size+1))):=(hst.after hb2).keeps
   have hstep2:Step (m.aT l0 (w.heap.size+1)) { s with lp:=(l0,⟨s.sv.length,ps,assign,body,none⟩)::s.lp } w1 m' s'.dQ w2:=by
    refine ⟨hkp,?_,?_,?_,?_,?_⟩
    ·rw [hbx.1,hbx.2.1];exact hst.mt
    ·rintro b hb ⟨nm,x,hx,rfl⟩
     rw [hbx.2.2.1] at hx
     refine hst.lp _ hb ⟨nm,x,?_,rfl⟩
     rw [hlp];simp only [aj]
     have:nm≠l0:=fun e=>by
      rw [e,wz htl.symm hl] at hx;cases hx
     rw [if_neg (Ne.symm this)];exact hx
    ·rw [hbx.2.2.2.1,← hrd]
    ·rw [hbx.2.2.2.2]
    ·intro nm hnm
     refine hst.lpm nm ?_
     simp only [rds,Sa.dU,List.map_cons,List.mem_cons] at hnm ⊢
     rcases hnm with h | h
     ·rw [hrd] at h;cases h
     ·exact .inr (.inr h)
   have hstep:=(hstep1.trans hstep2).after (nX (B:=w.heap.size) (r:=m'.lp l0) (o:=.loop { rc with state:=.exhausted }) (by rw [hmlp];omega))
   have hrdo:bf m' s'.dQ=bf m s:=by simp [bf,hbx.2.2.2.1,hrd]
   have hnm:kL a.defers w ({ target:=.collected w.heap.size,args:=#[] }::a.defers):=fun d hd=>by
    rcases List.mem_cons.1 hd with rfl | hd
    ·exact .inr ⟨_,rfl,Nat.le_refl _⟩
    ·exact .inl hd
   generalize w2.putObj (m'.lp l0) (.loop { rc with state:=.exhausted })=w4 at hend hpop hstep
   refine ⟨rc.pending,w4,by rw [← hmlp];exact hend,?_⟩
   have hstat:=hx.stat
   split at hk
   ·rename_i hp
    rw [hp] at hstat
    rw [hstat.2]
    exact ⟨.norm,m',s'.dQ,rfl,hk,hpop,hstep,hrdo,hnm⟩
   ·exact hk.elim
   ·rename_i j hp
    rw [hp] at hstat
    rw [hstat.2]
    have h9:=Jm hk Mo m' _ sv _ n hpop
    have hrd9:bf m' s'.dQ=none:=by rw [hrdo,hrd0]
    rw [hrd9] at h9
    exact wpIn_mono h9 (fun e a2 w2 hp=>kM.step hstep hrdo hnm hp)
  ·exact hk.elim
 cases e with
 | normal=>cases hex;exact hfin
 | ret=>cases hex;exact hfin
 | exit i=>cases hex;exact hexx.elim
 | goto l=>cases hex
 | panic c=>cases hex
 | outgrown=>cases hex
theorem Uo {ι:Type} (S:ι→Sa) (μ:ι→Nat) {b:Code} {Q:Ex→Sa→Prop}
  (h:∀ i,TC P p b (S i) (fun e s'=>match e with | .norm=>∃ j,Wk s' (S j)∧μ j<μ i | e=>Q e s')) (i:ι):TC P p (.loop b) (S i) Q:=by
 intro Mo m a sv w n hR
 refine EJ (fun j a' w'=>∃ m',Rel Mo m' (S j) (a' :: sv) w' ∧ Step m (S i) w m' (S j) w' ∧ bf m' (S j)=bf m (S i)∧kL a.defers w a'.defers) μ ?_ i a w ⟨m,hR,Step.refl _ _ _,rfl,.refl⟩
 rintro j a1 w1 ⟨m1,hR1,hst1,hrd1,hmk1⟩
 have h1:=(h j) Mo m1 a1 sv w1 n hR1
 rw [hrd1] at h1
 refine wpIn_mono h1 ?_
 rintro e a2 w2 ⟨ex,m2,s2,he,hq,hR2,hst2,hrd2,hmk2⟩
 have hmk:kL a.defers w a2.defers:=fun d hd=>by
  rcases hmk2 d hd with h | ⟨r,e,hr⟩
  ·exact hmk1 d h
  ·exact .inr ⟨r,e,Nat.le_trans hst1.keeps.size hr⟩
 cases e with
 | normal =>
  cases he
  obtain ⟨j',hw,hlt⟩:=hq
  obtain ⟨m3,hR3,hst3,hrd3⟩:=hw Mo m2 _ w2 hR2
  exact ⟨j',⟨m3,hR3,(hst1.trans hst2).trans hst3,(hrd3.trans hrd2).trans hrd1,hmk⟩,hlt⟩
 | exit i=>cases he;exact ⟨_,m2,s2,rfl,hq,hR2,hst1.trans hst2,hrd2.trans hrd1,hmk⟩
 | ret=>cases he;exact ⟨_,m2,s2,rfl,hq,hR2,hst1.trans hst2,hrd2.trans hrd1,hmk⟩
 | goto l=>cases he
 | panic c=>cases he
 | outgrown=>cases he
end Go.Ab
namespace Go.Ab
open Go Go.RowKit
variable {P:Program} {w:World} {n:Nat} {Mo:Cells} {m:Mp} {s:Sa} {as:List Act} {p:Name}
def Sa.aX (s:Sa) (r:Option Name):Sa:=match s.sv with
 | f::fs=>{ rd:=r,n:=f.n,ts:=f.ts,sv:=fs,bx:=s.bx,lp:=s.lp.tail,ow:=s.ow,vc:=s.vc }
 | []=>s
def sU (P:Program) (p:Name) (rs:List ResultVar) (l:Name) (s0:Sa) (Q:Ex→Sa→Prop) (e:Ex) (s:Sa):Prop :=
 (match e with | .exit _=>False | _=>True)∧s.sv.length=s0.sv.length+1∧lpD s.lp=(l,s0.sv.length)::lpD s0.lp∧G7 P s rs fun _=>match s.lp with
  | (_,q)::_=>match q.pending with
   | none=>Q .norm (s.aX s0.rd)
   | some none=>False
   | some (some c)=>ev P (pJ P) p c (s.aX s0.rd) Q
  | []=>False
theorem Rel.XE {a:Act} {sv:List Act} {w1:World} {l:Name} {args:List V} {vs:Array Value} {nt:Nat} {ps:Array Tmp} {assign body:Code} {r:Loop} (h:Rel Mo m s (a::sv) w) (hy:Aa (fun v=>l ∉ v.lps) s) (hn:aj l s.lp=none)
  (hbl:Below w.heap.size w w1) {N:Nat} (hN:w1.heap[N]? = some (.loop r)) (hNs:w.heap.size≤N)
  (hr:r.params=ps∧r.assign=assign∧r.body=body∧r.tmps=a.tmps∧r.state = .ready∧r.pending=none)
  (ha:jQ w1 (Tot Mo s.bx s.ow m) (m.aT l N) args vs) (hle:args.length≤nt) :
  Rel Mo (m.aT l N) (s.dU l nt args ⟨s.sv.length,ps,assign,body,none⟩)
   ({ tmps:=vs++Array.replicate (nt - vs.size) undef,defers:=[] }::a::sv) w1:=by
 have h1:=h.LP (N:=N) hy hn hbl
 have h2:=(h1.TA (some l)).push (args:=args) (vs:=vs) nt ha hle
 refine h2.OB (l:=l) (q:=⟨s.sv.length,ps,assign,body,none⟩) (r:=r) (a:=a) hn ?_ ?_ ?_
 ·refine ⟨by simpa [Mp.aT] using hN,hr.1,hr.2.1,hr.2.2.1,?_,hr.2.2.2.1,hr.2.2.2.2⟩
  have hl:=h.len
  simp only [List.length_cons,Nat.add_right_cancel_iff] at hl
  have e:∀ (x y:Act),(x::y::sv).reverse[s.sv.length]? = some y:=fun x y=>by
   rw [← hl]
   simp
  exact e _ _
 ·have hl:=h.len
  simp only [List.length_cons] at hl ⊢
  omega
 ·intro l' p' hl
  have:l' ≠ l:=fun e=>by rw [e] at hl;exact absurd hl (by simp [Sa.push,hn])
  obtain ⟨rc,b,hx⟩:=h.lps l' p' hl
  have:=(Array.getElem?_eq_some_iff.1 hx.heap).1
  simp only [Mp.aT,if_true]
  rw [if_neg (by assumption)]
  omega
theorem Dk {g:Operand} {ps:Array Tmp} {assign body:Code} {gf:FuncId} {cap:List V} {fn:Func} {c:Code} {Q:Ex→Sa→Prop} (l qn:Name) {l0:Name} {q0:Lp} (hrd:s.rd=some l0) (hl0:aj l0 s.lp=some q0) (hsv0:some l0∈s.sv.map (·.rd)) (hrs:some l ∉ rds s) (hl:aj l s.lp=none) (hy:s.jC l=false)
  (hg:s.get g = .fn gf cap) (hycap:V.jv l cap=false) (hcal:callable P gf=true) (hf:P.funcs[gf]? = some fn) (hb:fn.body=some c) (hle:(V.yld l::cap).length≤fn.ntmps)
  (h:TC P qn c (s.dU l fn.ntmps (.yld l::cap) ⟨s.sv.length,ps,assign,body,none⟩) (sU P qn fn.results.toList l s Q)):TC P p (.rangeFunc g ps assign body) s Q:=by
 intro Mo m a sv w n hR
 have hrd0:bf m s=some (m.lp l0):=by simp [bf,hrd]
 rw [hrd0]
 obtain ⟨r0,b0,hx0⟩:=hR.lps l0 q0 hl0
 refine wpIn_rangeFunc (fun fnid _=>?_)
 have hgv:=hR.operand g
 rw [hg] at hgv
 obtain ⟨cs,e,hs,hrep⟩:=hgv.NY
 have he:=run_enterLoop_inner (P:=P) (w:=w) hx0.heap fnid a.tmps ps assign body
 generalize hw1:(w.alloc (.loop { state:=.ready,pending:=none,fn:=fnid,tmps:=a.tmps,params:=ps,assign,body,defers:=r0.defers }))=w1 at he
 have hbl:Below w.heap.size w w1:=by rw [← hw1];exact (Below.refl _ _).alloc (Nat.le_refl _) _
 have hN:w1.heap[w.heap.size]? = some (.loop { state:=.ready,pending:=none,fn:=fnid,tmps:=a.tmps,params:=ps,assign,body,defers:=r0.defers }):=by
  rw [← hw1]
  exact World.alloc_heap_new w _
 refine ⟨w.heap.size,[],w1,{ target:=.fn (.func gf) cs,args:=#[.func (.yield (w.heap.size)) #[] #[]] },w1,gf,#[.func (.yield (w.heap.size)) #[] #[]]++cs,w1,he,?_,fun _ _=>trivial,?_,pK,?_⟩
 ·have e1:a.eval (.const (.func (.yield (w.heap.size)) #[] #[])) = .func (.yield (w.heap.size)) #[] #[]:=rfl
  simp [resolve,e,Deferred.ofValue,e1]
 ·simp only [invoke];exact kQ hcal _
 have hyall:=Sa.Jq hy
 have hargs:jQ w1 (Tot Mo s.bx s.ow m) (m.aT l (w.heap.size)) (.yld l::cap) (#[.func (.yield (w.heap.size)) #[] #[]]++cs):=by
  refine ⟨by simp [hs];omega,fun i hi=>?_⟩
  cases i with
  | zero =>
   have:(m.aT l (w.heap.size)).lp l=w.heap.size:=by simp [Mp.aT]
   simp only [List.getElem_cons_zero]
   have h0:=@aU.yld w1 (Tot Mo s.bx s.ow m) (m.aT l (w.heap.size)) l
   rw [this] at h0
   have e2:(#[Value.func (.yield (w.heap.size)) #[] #[]]++cs).getD 0 undef=Value.func (.yield (w.heap.size)) #[] #[]:=by
    rw [Array.getD_eq_getD_getElem?,Array.getElem?_append_left (by simp)];rfl
   rw [e2];exact h0
  | succ i =>
   have hi' : i<cap.length:=by simpa using hi
   have h0:=(hrep i hi').LP (w':=w1) (l:=l) (N:=w.heap.size) (fun hx=>V.lW l cap hycap (pz hi' hx)) hbl
   simp only [List.getElem_cons_succ]
   rw [Array.getD_eq_getD_getElem?] at h0 ⊢
   rw [Array.getElem?_append_right (by simp)]
   simpa using h0
 have h0:=hR.XE (ps:=ps) (assign:=assign) (body:=body) (nt:=fn.ntmps) hyall hl hbl hN (Nat.le_refl _) ⟨rfl,rfl,rfl,rfl,rfl,rfl⟩ hargs hle
 refine dK (r:=some (m.lp l0)) (callsIn_of_wp_marks hf hb trivial ?_ rfl)
 have h1:=h Mo (m.aT l (w.heap.size)) _ _ w1 (n - 1) h0
 have hrd1:bf (m.aT l (w.heap.size)) (s.dU l fn.ntmps (.yld l::cap) ⟨s.sv.length,ps,assign,body,none⟩)=none:=rfl
 rw [hrd1] at h1
 refine wpIn_mono h1 ?_
 rintro e a' w' ⟨ex,m',s',hex,⟨hexx,hsvl,hlpn,hres⟩,hR',hst,_,hmk⟩
 have hmarks:∀ d∈a'.defers,∃ r,d={ target:=.collected r,args:=#[] }∧w1.heap.size≤r:=fun d hd=>by
  rcases hmk d hd with h | h
  ·simp at h
  ·exact h
 have hfin:LeavesInM (Wd none) (n - 1) P fn a'.tmps (rangePost (Wd (some (m.lp l0))) n P (w.heap.size) (kM Mo m s a.defers sv w Q) { a with defers:=[]++a.defers }) a'.defers .returning w':=by
  refine leaves w1.heap.size hres a'.defers a' w' rfl hR' hmarks (fun vs cc w2 hk hR2 hv hb2=>?_)
  split at hk
  ·rename_i l1 q tl hlp
   have hl00:l1=l∧q.depth=s.sv.length∧lpD tl=lpD s.lp:=by
    rw [hlp] at hlpn
    simp only [lpD,List.map_cons,List.cons.injEq,Prod.mk.injEq] at hlpn
    exact ⟨hlpn.1.1,hlpn.1.2,hlpn.2⟩
   obtain ⟨rfl,hqd,htl⟩:=hl00
   have hlook:aj l1 s'.lp=some q:=by rw [hlp];simp [aj]
   have hmlp:m'.lp l1=w.heap.size:=by
    have:=hst.lpm l1 (by simp [rds,Sa.dU])
    rw [this];simp [Mp.aT]
   obtain ⟨rc,b,hx⟩:=hR2.lps l1 q hlook
   have hnb:rc.state ≠ .busy:=by
    have:=hx.stat
    split at this
    ·rw [this.1];decide
    ·rw [this.1];decide
    ·rename_i hp;rw [hp] at hk;exact hk.elim
   have hend:=run_endLoop (P:=P) hx.heap hnb
   have hR3:=hR2.Jr (r':={ rc with state:=.exhausted }) hlp (wz htl.symm hl) hx.heap
   have hne:({ s' with lp:=tl }:Sa).sv≠[]:=fun e=>by simp only at e;rw [e] at hsvl;simp at hsvl
   have hdep:∀ nm x,aj nm ({ s' with lp:=tl }:Sa).lp=some x→x.depth+1<(a::sv).length:=by
    intro nm x hx
    obtain ⟨q0,e1,e2⟩:=su htl hx
    rw [← e2];exact hR.dep nm q0 e1
   have hpop:=(hR3.pop hne hdep).TA (some l0)
   obtain ⟨g,gs,hsv⟩:=List.exists_cons_of_ne_nil hne
   simp only at hsv
   have hout:({ ({ s' with lp:=tl }:Sa).pop with rd:=some l0 }:Sa)=s'.aX s.rd:=by
    simp [Sa.pop,Sa.aX,hsv,hlp,hrd]
   rw [hout] at hpop
   have hsvrd:=hst.svrd
   rw [hsv] at hsvrd
   simp only [Sa.dU,List.map_cons,List.cons.injEq] at hsvrd
   have hbx:(s'.aX s.rd).bx=s'.bx∧(s'.aX s.rd).ow=s'.ow∧(s'.aX s.rd).lp=tl∧(s'.aX s.rd).rd=s.rd∧(s'.aX s.rd).sv.map (·.rd)=s.sv.map (·.rd):=by
    simp only [Sa.aX,hsv,hlp,List.tail_cons];exact ⟨trivial,trivial,trivial,trivial,hsvrd.2⟩
   have hstep1:Step m s w (m.aT l1 (w.heap.size)) { s with lp:=(l1,⟨s.sv.length,ps,assign,body,none⟩)::s.lp } w1:=by
    refine ⟨.of_below hbl,fun b o _ hm=>hm,?_,rfl,rfl,?_⟩
    ·rintro b hb ⟨nm,x,hx,rfl⟩
     simp only [aj] at hx
     split at hx
     ·rename_i e;subst e
      simp only [Mp.aT,if_true] at hb
      omega
     ·rename_i e
      refine ⟨nm,x,hx,?_⟩
      simp only [Mp.aT]
      rw [if_neg (Ne.symm e)]
    ·intro nm hnm
     have:nm≠l1:=fun e=>hrs (e ▸ hnm)
     simp [Mp.aT,this]
   have hkp:Keeps w1 w2 (Mut s.bx s.ow (m.aT l1 (w.heap.size))) (LpB ((l1,⟨s.sv.length,ps,assign,body,none⟩)::s.lp) (m.aT l1 (w.heap.size))):=(hst.after hb2).keeps
   have hstep2:Step (m.aT l1 (w.heap.size)) { s with lp:=(l1,⟨s.sv.length,ps,assign,body,none⟩)::s.lp } w1 m' (s'.aX s.rd) w2:=by
    refine ⟨hkp,?_,?_,?_,?_,?_⟩
    ·rw [hbx.1,hbx.2.1];exact hst.mt
    ·rintro b hb ⟨nm,x,hx,rfl⟩
     rw [hbx.2.2.1] at hx
     refine hst.lp _ hb ⟨nm,x,?_,rfl⟩
     rw [hlp];simp only [aj]
     have:nm≠l1:=fun e=>by
      rw [e,wz htl.symm hl] at hx;cases hx
     rw [if_neg (Ne.symm this)];exact hx
    ·exact hbx.2.2.2.1
    ·rw [hbx.2.2.2.2]
    ·intro nm hnm
     refine hst.lpm nm ?_
     simp only [rds,Sa.dU,List.map_cons,List.mem_cons] at hnm ⊢
     rcases hnm with h | h
     ·rw [hrd] at h;cases h;exact .inr (.inr hsv0)
     ·exact .inr (.inr h)
   have hstep:=(hstep1.trans hstep2).after (nX (B:=w.heap.size) (r:=m'.lp l1) (o:=.loop { rc with state:=.exhausted }) (by rw [hmlp];omega))
   have hrdo:bf m' (s'.aX s.rd)=bf m s:=by
    have h1:m'.lp l0=(m.aT l1 w.heap.size).lp l0:=hst.lpm l0 (by simp only [rds,Sa.dU,List.map_cons,List.mem_cons];exact .inr (.inr hsv0))
    have h2:l0≠l1:=fun e=>hrs (by rw [← e];simp [rds,hrd])
    have h3:(m.aT l1 w.heap.size).lp l0=m.lp l0:=by simp [Mp.aT,h2]
    unfold bf
    rw [hbx.2.2.2.1,hrd,Option.map_some,Option.map_some,h1,h3]
   have hnm:kL a.defers w ([]++a.defers):=fun d hd=>.inl hd
   generalize w2.putObj (m'.lp l1) (.loop { rc with state:=.exhausted })=w4 at hend hpop hstep
   refine ⟨rc.pending,w4,by rw [← hmlp];exact hend,?_⟩
   have hstat:=hx.stat
   split at hk
   ·rename_i hp
    rw [hp] at hstat
    rw [hstat.2]
    exact ⟨.norm,m',(s'.aX s.rd),rfl,hk,hpop,hstep,hrdo,hnm⟩
   ·exact hk.elim
   ·rename_i j hp
    rw [hp] at hstat
    rw [hstat.2]
    have h9:=Jm hk Mo m' _ sv _ n hpop
    have hrd9:bf m' (s'.aX s.rd)=some (m.lp l0):=by rw [hrdo,hrd0]
    rw [hrd9] at h9
    exact wpIn_mono h9 (fun e a2 w2 hp=>kM.step hstep hrdo hnm hp)
  ·exact hk.elim
 cases e with
 | normal=>cases hex;exact hfin
 | ret=>cases hex;exact hfin
 | exit i=>cases hex;exact hexx.elim
 | goto l=>cases hex
 | panic c=>cases hex
 | outgrown=>cases hex
theorem zM {rs:List ResultVar} {l:Name} {Q:Ex→Sa→Prop} (h:s.rd=none):sU P p rs l s Q=Cc P p rs l s Q:=by
 unfold sU Cc
 rw [h]
 rfl
theorem Dl {g:Operand} {ps:Array Tmp} {assign body:Code} {gf:FuncId} {cap:List V} {fn:Func} {c:Code} {Q:Ex→Sa→Prop} (l qn:Name) (hrd:s.rd=none∨∃ l0 q0,s.rd=some l0∧aj l0 s.lp=some q0∧some l0∈s.sv.map (·.rd)) (hrs:some l ∉ rds s) (hl:aj l s.lp=none) (hy:s.jC l=false)
  (hg:s.get g = .fn gf cap) (hycap:V.jv l cap=false) (hcal:callable P gf=true) (hf:P.funcs[gf]? = some fn) (hb:fn.body=some c) (hle:(V.yld l::cap).length≤fn.ntmps)
  (h:TC P qn c (s.dU l fn.ntmps (.yld l::cap) ⟨s.sv.length,ps,assign,body,none⟩) (sU P qn fn.results.toList l s Q)):TC P p (.rangeFunc g ps assign body) s Q:=by
 rcases hrd with hrd | ⟨l0,q0,hrd,h1,h2⟩
 ·rw [zM hrd] at h
  exact Dj l qn hrd hrs hl hy hg hycap hcal hf hb hle h
 ·exact Dk l qn hrd h1 h2 hrs hl hy hg hycap hcal hf hb hle h
end Go.Ab
