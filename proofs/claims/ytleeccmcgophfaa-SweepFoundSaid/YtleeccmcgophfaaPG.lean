import Derived.Test.YtleeccmcgophfaaPF
import Derived.Test.YtleeccmcgophfaaPC
set_option linter.all false
namespace Go.Tx
open Go Go.Ab
section
variable {P:Program} {S:tu} {CS:Calls'} {env:List Val} {y:Sy} {s:Sa} {p:Name} {o:Oper} {k:Sa→Prop}
abbrev Nx (o:Oper) (s:Sa) (k:Sa→Prop) (z:SV):List Val→Prop:=fun e=>∀ v,ah e z v→k (s.put o.dst v)
def GX (P:Program) (t:TypeId):Bool:=match P.underlying t with | some .bool=>true | _=>false
theorem KP {P:Program} {t:TypeId} (h:GX P t=true):P.underlying t=some .bool:=by
 unfold GX at h;split at h
 ·assumption
 ·cases h
def X8 (w:Option Ty):SV→Option (Ty×E)
 | .e t x=>some (t,x)
 | .kd cs=>asE w (.kd cs)
 | _=>none
theorem GY {w:Option Ty} {z:SV} {v:V} {t:Ty} {x:E} (h:X8 w z=some (t,x)) (hv:ah env z v):∃ a,x.val env=some ⟨t,a⟩∧v = .d (bD t a):=by
 cases z <;> simp only [X8,reduceCtorEq] at h
 case e u q=>cases h;simp only [ah] at hv;exact hv
 case kd cs =>
  obtain ⟨a,h1,h2⟩:=qB h hv
  simp only [ah] at hv;subst hv
  simp only [V.toD,V.lu,Option.some.injEq] at h2
  exact ⟨a,h1,by rw [h2]⟩
theorem iM {q:IntKind} {a:(Ty.int q).den}:bD (.int q) a = .v (.int q a):=rfl
theorem dP {a:Ty.bool.den}:bD .bool a = .v (.bool a):=rfl
theorem I8 {a:Ty.str.den}:bD .str a = .v (.string a):=rfl
def RJ (c:E):List E→Bool
 | [g]=>g.same c
 | _=>false
theorem I9 {c:E} {gs:List E} (h:RJ c gs=true):gs=[c]:=by
 unfold RJ at h
 split at h
 ·rw [E.same_eq h]
 ·cases h
def VG (c x y:SV):Option SV :=
 match c with
 | .e .bool (.bool true)=>some x
 | .e .bool (.bool false)=>some y
 | .e .bool c=>match x,y with
  | .gd gs (.e t a),.e u b=>if t=u∧RJ c gs=true then some (.e t (.pick c a b)) else none
  | .e t a,.gd gs (.e u b)=>if t=u∧RJ (.p1 .not c) gs=true then some (.e t (.pick c a b)) else none
  | .e t a,.e u b=>if t=u then some (.e t (.pick c a b)) else none
  | _,_=>none
 | _=>none
theorem holds_one {c:E} {b:Bool} (h:c.val env=some ⟨.bool,b⟩):holds env [c]=some b:=by simp [holds,h]
theorem RN {c x z w:SV} {cv xv zv:V} (h:VG c x z=some w) (hc:ah env c cv) (hx:ah env x xv) (hz:ah env z zv) :
  ∃ b,cv = .d (.v (.bool b))∧(b=true→ah env w xv)∧(b=false→ah env w zv):=by
 unfold VG at h
 split at h
 ·cases h
  simp only [ah] at hc
  obtain ⟨a,h1,rfl⟩:=hc
  cases h1
  exact ⟨true,rfl,fun _=>hx,fun e=>nomatch e⟩
 ·cases h
  simp only [ah] at hc
  obtain ⟨a,h1,rfl⟩:=hc
  cases h1
  exact ⟨false,rfl,fun e=>(nomatch e),fun _=>hz⟩
 ·rename_i c' _ _
  simp only [ah] at hc
  obtain ⟨b,hb,rfl⟩:=hc
  refine ⟨b,rfl,?_⟩
  split at h
  ·split at h
   ·rename_i gs t a u d hh
    obtain ⟨rfl,h2⟩:=hh
    cases h
    have hg:=I9 h2
    subst hg
    simp only [ah,typed] at hx hz ⊢
    obtain ⟨r,k1,⟨a1,k2⟩,k3,k4⟩:=hx
    rw [holds_one hb] at k1
    cases k1
    obtain ⟨a2,k5,rfl⟩:=hz
    refine ⟨fun e=>?_,fun e=>⟨_,jm hb k2 k5,by rw [if_neg (by simp [e])]⟩⟩
    obtain ⟨a3,k6,rfl⟩:=k3 e
    rw [k2] at k6;cases k6
    exact ⟨_,jm hb k2 k5,by rw [if_pos e]⟩
   ·cases h
  ·split at h
   ·rename_i t a gs u d hh
    obtain ⟨rfl,h2⟩:=hh
    cases h
    have hg:=I9 h2
    subst hg
    simp only [ah,typed] at hx hz ⊢
    obtain ⟨r,k1,⟨a1,k2⟩,k3,k4⟩:=hz
    have hn:(E.p1 .not c').val env=some ⟨.bool,!b⟩:=by simp [E.val,app1,hb,jV]
    rw [holds_one hn] at k1
    cases k1
    obtain ⟨a2,k5,rfl⟩:=hx
    refine ⟨fun e=>⟨_,jm hb k5 k2,by rw [if_pos e]⟩,fun e=>?_⟩
    obtain ⟨a3,k6,rfl⟩:=k3 (by simp [e])
    rw [k2] at k6;cases k6
    exact ⟨_,jm hb k5 k2,by rw [if_neg (by simp [e])]⟩
   ·cases h
  ·split at h
   ·rename_i e
    subst e
    cases h
    simp only [ah] at hx hz ⊢
    obtain ⟨a1,k1,rfl⟩:=hx
    obtain ⟨a2,k2,rfl⟩:=hz
    exact ⟨fun e=>⟨_,jm hb k1 k2,by rw [if_pos e]⟩,fun e=>⟨_,jm hb k1 k2,by rw [if_neg (by simp [e])]⟩⟩
   ·cases h
  ·cases h
 ·cases h
def Zl (P:Program) (op:BinOp) (t:TypeId) (nv:Nat) (tx:Ty) (x:E) (ty:Ty) (z:E):Option (List (B×Ty)×SV) :=
 match tx,ty with
 | .int k,.int q=>match op with
  | .shl=>some ([(.r2 (.par .shl) x z,.int k)],.e (.int k) (.var nv))
  | .shr=>some ([(.r2 (.par .shr) x z,.int k)],.e (.int k) (.var nv))
  | .quo=>if k=q then some ([(.r2 (.par .quo) x z,.int k)],.e (.int k) (.var nv)) else none
  | .rem=>if k=q then some ([(.r2 (.par .rem) x z,.int k)],.e (.int k) (.var nv)) else none
  | op=>if k=q then (ty2 (.bin op) (.int k) (.int q)).map fun u=>([],.e u (.p2 (.bin op) x z)) else none
 | .bool,.bool=>if GX P t=true then (ty2 (.bin op) .bool .bool).map fun u=>([],.e u (.p2 (.bin op) x z)) else none
 | .str,.str=>(ty2 (.bin op) .str .str).map fun u=>([],.e u (.p2 (.bin op) x z))
 | .st a,.st b=>if Ty.st b=Ty.st a∧(jQ P t).isSome=true∧jQ P t=jU (.st a) then (ty2 (.bin op) (.st a) (.st b)).map fun u=>([],.e u (.p2 (.bin op) x z)) else none
 | .arr n a,.arr m b=>if Ty.arr m b=Ty.arr n a∧(jQ P t).isSome=true∧jQ P t=jU (.arr n a) then (ty2 (.bin op) (.arr n a) (.arr m b)).map fun u=>([],.e u (.p2 (.bin op) x z)) else none
 | _,_=>none
theorem pX {env:List Val} {v:Val} {n:Nat} (h:env.length=n):(E.var n).val (env++[v])=some v:=by
 simp [E.val,← h]
theorem bV {nv:Nat} {t:Ty} {b:B} {Q:List Val→Prop} (hn:env.length=nv) (h:iU CS [(b,t)] env Q):∃ a:t.den,b.ok CS env ⟨t,a⟩∧Q (env++[⟨t,a⟩])∧(E.var nv).val (env++[⟨t,a⟩])=some ⟨t,a⟩:=by
 simp only [iU] at h
 obtain ⟨⟨u,a⟩,h0,h1,h2⟩:=h
 simp only at h0;subst h0
 exact ⟨a,h1,h2,pX hn⟩
theorem VH {op:BinOp} {t:TypeId} {tx tz:Ty} {x z:E} {bs:List (B×Ty)} {w:SV} {a:tx.den} {b:tz.den} {nv:Nat} (h:Zl P op t nv tx x tz z=some (bs,w)) (hn:env.length=nv)
  (hx:x.val env=some ⟨tx,a⟩) (hz:z.val env=some ⟨tz,b⟩) (hop:∃ xo yo yt,o.op = .binOp op t xo yo yt∧s.get xo = .d (bD tx a)∧s.get yo = .d (bD tz b)) (hb:iU CS bs env (Nx o s k w)):aP P S p o s k:=by
 obtain ⟨xo,yo,yt,hop,ex,ey⟩:=hop
 simp only [aP,hop,ey,ex]
 have total:∀ {u:Ty},ty2 (.bin op) tx tz=some u→bs=[]→w = .e u (.p2 (.bin op) x z)→∃ f,l7 (.bin op) tx tz=some ⟨u,f⟩∧k (s.put o.dst (.d (bD u (f a b)))):=by
  intro u hu hbs hw
  subst hbs;subst hw
  obtain ⟨f,h1,h2⟩:=GK hu hx hz
  exact ⟨f,h1,hb _ (by simp only [ah];exact ⟨_,h2,rfl⟩)⟩
 unfold Zl at h
 split at h
 ·rename_i kk q
  split at h
  ·cases h
   obtain ⟨c,h1,h2,h3⟩:=bV hn hb
   obtain ⟨a',b',r,c',e1,e2,e3,e4,e5⟩:=h1
   rw [hx] at e1;cases e1
   rw [hz] at e2;cases e2
   cases e3
   simp only at e4
   split at e4
   ·rename_i hc
    cases e4
    cases e5
    simp only [iM,JV]
    exact ⟨hc,h2 _ (by simp only [ah];exact ⟨_,h3,rfl⟩)⟩
   ·cases e4
  ·cases h
   obtain ⟨c,h1,h2,h3⟩:=bV hn hb
   obtain ⟨a',b',r,c',e1,e2,e3,e4,e5⟩:=h1
   rw [hx] at e1;cases e1
   rw [hz] at e2;cases e2
   cases e3
   simp only at e4
   split at e4
   ·rename_i hc
    cases e4
    cases e5
    simp only [iM,JV]
    exact ⟨hc,h2 _ (by simp only [ah];exact ⟨_,h3,rfl⟩)⟩
   ·cases e4
  ·split at h
   ·rename_i hkq
    subst hkq
    cases h
    obtain ⟨c,h1,h2,h3⟩:=bV hn hb
    obtain ⟨a',b',r,c',e1,e2,e3,e4,e5⟩:=h1
    rw [hx] at e1;cases e1
    rw [hz] at e2;cases e2
    simp only [zX,if_true,Option.some.injEq] at e3
    subst e3
    simp only at e4
    split at e4
    ·rename_i hc
     cases e4
     cases e5
     simp only [iM,JV]
     exact ⟨trivial,hc,h2 _ (by simp only [ah];exact ⟨_,h3,rfl⟩)⟩
    ·cases e4
   ·cases h
  ·split at h
   ·rename_i hkq
    subst hkq
    cases h
    obtain ⟨c,h1,h2,h3⟩:=bV hn hb
    obtain ⟨a',b',r,c',e1,e2,e3,e4,e5⟩:=h1
    rw [hx] at e1;cases e1
    rw [hz] at e2;cases e2
    simp only [zX,if_true,Option.some.injEq] at e3
    subst e3
    simp only at e4
    split at e4
    ·rename_i hc
     cases e4
     cases e5
     simp only [iM,JV]
     exact ⟨trivial,hc,h2 _ (by simp only [ah];exact ⟨_,h3,rfl⟩)⟩
    ·cases e4
   ·cases h
  ·split at h
   ·rename_i hkq
    subst hkq
    obtain ⟨u,hu,he⟩:=Option.map_eq_some_iff.1 h
    cases he
    obtain ⟨f,h1,h2⟩:=total hu rfl rfl
    simp only [l7,if_true] at h1
    simp only [iM]
    cases op <;> simp only [Vy,reduceCtorEq,Option.some.injEq] at h1 <;> first
     | contradiction
     | (cases h1;simp only [JV,cmpInt,arith];exact ⟨trivial,h2⟩)
   ·cases h
 ·split at h
  ·rename_i ht
   obtain ⟨u,hu,he⟩:=Option.map_eq_some_iff.1 h
   cases he
   obtain ⟨f,h1,h2⟩:=total hu rfl rfl
   simp only [dP,JV]
   refine ⟨KP ht,?_⟩
   cases op <;> simp only [l7,reduceCtorEq,Option.some.injEq] at h1 <;> (cases h1;exact h2)
  ·cases h
 ·obtain ⟨u,hu,he⟩:=Option.map_eq_some_iff.1 h
  cases he
  obtain ⟨f,h1,h2⟩:=total hu rfl rfl
  simp only [I8,JV]
  cases op <;> simp only [l7,reduceCtorEq,Option.some.injEq] at h1 <;> (cases h1;exact h2)
 ·rename_i a1 b1
  split at h
  ·rename_i hc
   obtain ⟨hab,hs,hks⟩:=hc
   obtain ⟨u,hu,he⟩:=Option.map_eq_some_iff.1 h
   cases he
   obtain ⟨f,h1,h2⟩:=total hu rfl rfl
   cases hab
   obtain ⟨ks,hk⟩:=Option.isSome_iff_exists.1 hs
   rw [dA rfl,dA rfl]
   simp only [hk]
   cases he:eqT a1 with
   | none=>simp [l7,he] at h1
   | some g =>
    have hq:=Um (show jU a1=some ks by rw [← hks.symm.trans hk];rfl) he a b
    simp only [enc,hq]
    cases op <;> simp only [l7,he,dif_pos,reduceCtorEq,Option.some.injEq] at h1 <;> (cases h1;exact h2)
  ·cases h
 ·rename_i n1 a1 m1 b1
  split at h
  ·rename_i hc
   obtain ⟨hab,hs,hks⟩:=hc
   obtain ⟨u,hu,he⟩:=Option.map_eq_some_iff.1 h
   cases he
   obtain ⟨f,h1,h2⟩:=total hu rfl rfl
   cases hab
   obtain ⟨ks,hk⟩:=Option.isSome_iff_exists.1 hs
   rw [dA rfl,dA rfl]
   simp only [hk]
   cases he:eqT (.arr n1 a1) with
   | none=>simp [l7,he] at h1
   | some g =>
    have hq:=Um (show jU (.arr n1 a1)=some ks by rw [← hks,hk]) he a b
    simp only [hq]
    cases op <;> simp only [l7,he,dif_pos,reduceCtorEq,Option.some.injEq] at h1 <;> (cases h1;exact h2)
  ·cases h
 ·cases h
end
end Go.Tx
namespace Go.Tx
open Go Go.Ab
section
variable {P:Program} {S:tu} {CS:Calls'} {env:List Val} {y:Sy} {s:Sa} {p:Name} {o:Oper} {k:Sa→Prop}
theorem xC {ag:Bool} {off sz:Nat} {v:Ty} {b:v.den} {ds:List D} (h2:v.ag=some ag) (h3:v.size=sz) (h4:off+sz≤ds.length) (h5:enc v b=(ds.drop off).take sz):bJ ag off sz (.d (.agg ds)) = .d (bD v b):=by
 cases ag with
 | true =>
  rw [dA h2];simp only [bJ]
  split
  ·rename_i hz;rw [h5,hz.1,List.drop_zero,List.take_of_length_le (by omega)]
  ·rw [h5]
 | false =>
  obtain ⟨e1,e2⟩:=jP h2 b
  simp only [bJ]
  have hs:=iK h2
  have:ds[off]? = some (bD v b):=by
   rw [e1] at h5
   have h6:=congrArg (fun l:List D=>l[0]?) h5
   rw [List.getElem?_take_of_lt (by omega),List.getElem?_drop] at h6
   simpa using h6.symm
  rw [this];rfl
def X9 (off m:Nat) (u v:Ty) (x:E):Option E :=
 if off=0∧v = .arr m u then some x else if ty1 (.part off (some (.arr m u))) v=some (.arr m u) then some (.p1 (.part off (some (.arr m u))) x) else none
theorem GZ {off m:Nat} {u v:Ty} {x z:E} {b:v.den} (h:X9 off m u v x=some z) (hx:x.val env=some ⟨v,b⟩) :
  ∃ f:(Ty.arr m u).den,z.val env=some ⟨.arr m u,f⟩∧off+m * u.size≤v.size∧enc (.arr m u) f=((enc v b).drop off).take (m * u.size)∧bD v b = .agg (enc v b):=by
 unfold X9 at h
 split at h
 ·rename_i hc
  cases h
  obtain ⟨h0,h1⟩:=hc
  subst h1
  exact ⟨b,hx,by simp only [Ty.size];omega,by rw [h0,List.drop_zero,List.take_of_length_le (by rw [ak];exact Nat.le_refl _)],rfl⟩
 ·split at h
  ·rename_i hc
   cases h
   obtain ⟨f,h1,h2⟩:=X7 hc hx
   obtain ⟨k1,k2,k3⟩:=wZ _ _ _ _ _ (show nP v off (some (.arr m u))=some ⟨.arr m u,f⟩ from h1)
   refine ⟨f b,h2,k1,k3 b,?_⟩
   unfold bD jD
   split
   ·rename_i ha
    exfalso
    simp only [jV] at h1
    cases v <;> simp [Ty.ag] at ha <;> simp [nP,hit,Ty.ag] at h1
   ·rfl
  ·cases h
def VI (nv:Nat) (bx:List (Name×SV)) (ag:Bool) (w:Option Ty) (sz:Nat):SV→Option (List (B×Ty)×SV)
 | .ptr n off=>match aj n bx with
  | some c=>(BQ ag w off sz c).map fun z=>([],z)
  | none=>none
 | .ref u x off=>(xu ag w off sz u x).map fun r=>([],.e r.1 r.2)
 | .aptr n off m u i inn=>match aj n bx with
  | some (.e v x)=>match X9 off m u v x with
   | some z=>(xu ag w inn sz u (.var nv)).map fun r=>([(.r2 .TG z i,u)],.e r.1 r.2)
   | none=>none
  | _=>none
 | _=>none
theorem xE {α:Type} {a b:List α} (n:Nat) (h:a <+: b):a.drop n <+: b.drop n:=by
 obtain ⟨r,rfl⟩:=h
 exact ⟨r.drop (n - a.length),by rw [List.drop_append]⟩
theorem EH {m:Nat} {u w:Ty} {f:Fin m→u.den} {ds:List D} {off inn sz j:Nat} {c:w.den} (hj:j<m) (h1:enc (.arr m u) f=(ds.drop off).take (m * u.size)) (hd:off+m * u.size≤ds.length) (hi:inn+sz≤u.size) (h2:enc w c=((enc u (f ⟨j,hj⟩)).drop inn).take sz) :
  off+j * u.size+inn+sz≤ds.length∧enc w c=(ds.drop (off+j * u.size+inn)).take sz:=by
 have hle:j * u.size+u.size≤m * u.size:=by
  have:=Nat.mul_le_mul_right u.size (show j+1≤m from hj)
  rw [Nat.add_mul,Nat.one_mul] at this;exact this
 refine ⟨by omega,?_⟩
 rw [h2,← sF f hj hi,h1,List.drop_take,List.take_take,Nat.min_eq_left (by omega),List.drop_drop,Nat.add_assoc]
theorem RP {t:TypeId} {x:Operand} {ag:Bool} {w:Option Ty} {a z:SV} {bs:List (B×Ty)} (hop:o.op = .load t x) (hag:zy P t=some ag) (hz:ag=false→tsz P t≠0) (h:VI y.g.length y.bx ag w (tsz P t) a=some (bs,z))
  (hI:Inst env y s) (ha:ah env a (s.get x)) (hb:iU CS bs env (Nx o s k z)):aP P S p o s k:=by
 simp only [aP,hop,hag]
 refine ⟨hz,?_⟩
 cases a <;> simp only [VI,reduceCtorEq] at h <;> simp only [ah] at ha
 case ptr n off =>
  rw [ha]
  simp only
  split at h
  ·rename_i c hc
   obtain ⟨z',h1,h2⟩:=Option.map_eq_some_iff.1 h
   cases h2
   obtain ⟨c',e1,e2⟩:=(hI.bx.look (n:=n)).1 hc
   simp only [e1]
   obtain ⟨k1,k2⟩:=BR h1 e2
   exact ⟨k2,hb _ k1⟩
  ·cases h
 case ref u q off =>
  obtain ⟨b,cs,e1,e2,e3⟩:=ha
  rw [e2]
  simp only
  obtain ⟨⟨v,q'⟩,h1,h2⟩:=Option.map_eq_some_iff.1 h
  cases h2
  obtain ⟨k1,k2⟩:=N8 h1 e1 e3
  exact ⟨k2,hb _ k1⟩
 case aptr n off m u i inn =>
  obtain ⟨kk,j,e1,e2,e3,e4⟩:=ha
  rw [e4]
  simp only
  split at h
  ·rename_i v q hc
   split at h
   ·rename_i zz hzz
    obtain ⟨⟨v',q'⟩,h1,h2⟩:=Option.map_eq_some_iff.1 h
    cases h2
    obtain ⟨c',g1,g2⟩:=(hI.bx.look (n:=n)).1 hc
    simp only [g1]
    simp only [ah] at g2
    obtain ⟨b,g3,rfl⟩:=g2
    obtain ⟨f,f1,f2,f3,f4⟩:=GZ hzz g3
    obtain ⟨c,r1,r2,r3⟩:=bV hI.len hb
    obtain ⟨a',b',r,c',x1,x2,x3,x4,x5⟩:=r1
    rw [f1] at x1;cases x1
    rw [e1] at x2;cases x2
    simp only [zX,Option.some.injEq] at x3
    subst x3
    simp only at x4
    rw [dif_pos ⟨e2,e3⟩] at x4
    cases x4;cases x5
    obtain ⟨d,l1,l2,l3,l4,l5⟩:=sH h1 r3
    obtain ⟨p1,p2⟩:=EH (ds:=enc v b) e3 f3 (by rw [ak];exact f2) l4 l5
    rw [f4]
    refine ⟨by simp only [V.cells,List.length_map];exact p1,?_⟩
    rw [xC l2 l3 p1 p2]
    exact r2 _ (by simp only [ah];exact ⟨d,l1,rfl⟩)
   ·cases h
  ·cases h
def RQ:SV→Bool
 | .e t _=>decide (t.ag=some true)
 | .agg _=>true
 | .mix _ _ _ _=>true
 | .kd _=>true
 | _=>false
theorem RS {x:SV} {v:V} (h:RQ x=true) (hv:ah env x v):v.isStr=true:=by
 cases x <;> simp only [RQ,Bool.false_eq_true,decide_eq_true_eq] at h <;> simp only [ah] at hv
 ·obtain ⟨a,_,rfl⟩:=hv;rw [dA h];rfl
 ·obtain ⟨_,rfl,_⟩:=hv;rfl
 ·obtain ⟨_,_,_,rfl,_⟩:=hv;rfl
 ·subst hv;rfl
def Zm (off:Nat):SV→Option SV
 | .ptr n o=>some (.ptr n (o+off))
 | .ref u x o=>some (.ref u x (o+off))
 | .aptr n o m u i inn=>some (.aptr n o m u i (inn+off))
 | _=>none
theorem VJ {t:TypeId} {x:Operand} {i off:Nat} {ft:TypeId} {a z:SV} (hop:o.op = .fieldAddr t x i) (hf:qW P t i=some (off,ft)) (hz:tsz P ft≠0) (h:Zm off a=some z)
  (ha:ah env a (s.get x)) (hb:Nx o s k z env):aP P S p o s k:=by
 simp only [aP,hop,hf]
 refine ⟨hz,?_⟩
 cases a <;> simp only [Zm,reduceCtorEq,Option.some.injEq] at h <;> simp only [ah] at ha <;> subst h
 case ptr n o'=>rw [ha];exact hb _ (by simp only [ah])
 case ref u q o' =>
  obtain ⟨b,cs,e1,e2,e3⟩:=ha
  rw [e2]
  refine hb _ ?_
  simp only [ah]
  refine ⟨b,cs.drop off,e1,rfl,?_⟩
  rw [← List.drop_drop]
  exact xE off e3
 case aptr n o' m u e inn =>
  obtain ⟨kk,j,e1,e2,e3,e4⟩:=ha
  rw [e4]
  refine hb _ ?_
  simp only [ah]
  exact ⟨kk,j,e1,e2,e3,by rw [Nat.add_assoc]⟩
theorem RU {t:TypeId} {x:Operand} {i off:Nat} {ft:TypeId} {ag:Bool} {w:Option Ty} {a z:SV} (hop:o.op = .field t x i) (hf:qW P t i=some (off,ft)) (hag:zy P ft=some ag) (hz:ag=false→tsz P ft≠0) (hs:RQ a=true) (h:BQ ag w off (tsz P ft) a=some z)
  (ha:ah env a (s.get x)) (hb:Nx o s k z env):aP P S p o s k:=by
 simp only [aP,hop,hf,hag]
 obtain ⟨k1,k2⟩:=BR h ha
 exact ⟨hz,k2,RS hs ha,hb _ k1⟩
def asS (w:Option Ty):SV→Option (Ty×E)
 | .e (.sl t) x=>some (t,x)
 | .own _ _ t x=>some (t,x)
 | .nil=>match w with | some (.sl t)=>some (t,.zero (.sl t)) | _=>none
 | _=>none
theorem sJ {w:Option Ty} {z:SV} {v:V} {t:Ty} {x:E} (h:asS w z=some (t,x)) (hv:ah env z v):∃ a:List t.den,x.val env=some ⟨.sl t,a⟩∧sliceOf v=some (a.map (bD t)):=by
 unfold asS at h
 split at h
 ·cases h;simp only [ah] at hv;obtain ⟨a,h1,rfl⟩:=hv;exact ⟨a,h1,rfl⟩
 ·cases h;simp only [ah] at hv;obtain ⟨a,h1,_,rfl⟩:=hv;exact ⟨a,h1,rfl⟩
 ·split at h
  ·cases h;simp only [ah] at hv;subst hv;exact ⟨[],rfl,rfl⟩
  ·cases h
 ·cases h
def asI:SV→Option (IntKind×E)
 | .e (.int k) x=>some (k,x)
 | _=>none
theorem nK {z:SV} {v:V} {q:IntKind} {x:E} (h:asI z=some (q,x)) (hv:ah env z v):∃ i:Int,x.val env=some ⟨.int q,i⟩∧v = .d (.v (.int q i)):=by
 unfold asI at h
 split at h
 ·cases h;simp only [ah] at hv;obtain ⟨a,h1,rfl⟩:=hv;exact ⟨a,h1,rfl⟩
 ·cases h
def Zn (nv:Nat) (w:Option Ty) (sz:Nat) (a i:SV):Option (List (B×Ty)×SV) :=
 match asS w a,asI i with
 | some (t,x),some (_,j)=>if t.size=sz∧sz≠0∧t.ag≠none then some ([(.r2 .idx x j,t)],.ref t (.var nv) 0) else none
 | _,_=>none
theorem VK {t e:TypeId} {x ix:Operand} {w:Option Ty} {a i z:SV} {bs:List (B×Ty)} (hop:o.op = .indexAddr t x ix) (he:fP P t=some e) (h:Zn y.g.length w (tsz P e) a i=some (bs,z))
  (hI:Inst env y s) (ha:ah env a (s.get x)) (hi:ah env i (s.get ix)) (hb:iU CS bs env (Nx o s k z)):aP P S p o s k:=by
 unfold Zn at h
 split at h
 ·rename_i u q kk j h1 h2
  split at h
  ·rename_i hc
   cases h
   obtain ⟨l,e1,e2⟩:=sJ h1 ha
   obtain ⟨n,g1,g2⟩:=nK h2 hi
   obtain ⟨c,r1,r2,r3⟩:=bV hI.len hb
   obtain ⟨a',b',r,c',x1,x2,x3,x4,x5⟩:=r1
   rw [e1] at x1;cases x1
   rw [g1] at x2;cases x2
   simp only [zX,Option.some.injEq] at x3
   subst x3
   simp only at x4
   split at x4
   ·rename_i hn
    cases x5
    obtain ⟨hlt,hget⟩:=List.getElem?_eq_some_iff.1 x4
    simp only [aP,hop,g2,kG,he,e2]
    refine ⟨hc.2.1,hn,by rw [List.length_map];omega,fun d hd=>?_⟩
    rw [List.getElem?_map,x4] at hd
    cases hd
    refine ⟨by rw [aF,ak];exact hc.1,r2 _ ?_⟩
    simp only [ah]
    exact ⟨c,_,r3,rfl,by rw [List.drop_zero,aF];exact List.prefix_refl _⟩
   ·cases x4
  ·cases h
 ·cases h
def VL (nv:Nat) (m sz:Nat) (a i:SV) (et:Option Ty):Option (List (B×Ty)×SV) :=
 match asI i with
 | some (q,j)=>match a with
  | .ptr n off=>match j with
   | .int _ c=>if 0≤c∧c.toNat<m then some ([],.ptr n (off+c.toNat * sz)) else none
   | j=>match et with
    | some t=>if t.size=sz then some ([(.guard (.pick (.p1 .nonneg j) (.p2 (.bin .lss) j (.int q m)) (.bool false)),.unit)],.aptr n off m t j 0) else none
    | none=>none
  | .ref u x off=>match et with
   | some t=>if t.size=sz then (X9 off m t u x).map fun z=>([(.r2 .TG z j,t)],.ref t (.var nv) 0) else none
   | none=>none
  | _=>none
 | none=>none
def Ob (nv:Nat) (m:Nat) (ag:Bool) (sz:Nat) (a i:SV):Option (List (B×Ty)×SV) :=
 match asI i with
 | some (_,j)=>match a with
  | .e (.arr m' u) x=>if m' = m∧u.size=sz∧u.ag=some ag then some ([(.r2 .TG x j,u)],.e u (.var nv)) else none
  | _=>none
 | none=>none
theorem Oc {t e:TypeId} {x ix:Operand} {m:Nat} {ag:Bool} {a i z:SV} {bs:List (B×Ty)} (hop:o.op = .index t x ix) (ht:QI P t=some (m,e)) (hag:zy P e=some ag) (h:Ob y.g.length m ag (tsz P e) a i=some (bs,z))
  (hI:Inst env y s) (ha:ah env a (s.get x)) (hi:ah env i (s.get ix)) (hb:iU CS bs env (Nx o s k z)):aP P S p o s k:=by
 unfold Ob at h
 split at h
 ·rename_i q j h1
  obtain ⟨n,g1,g2⟩:=nK h1 hi
  simp only [aP,hop,g2,kG,ht,hag]
  split at h
  ·rename_i m' u xe
   split at h
   ·rename_i hc
    obtain ⟨hm,hsz,hua⟩:=hc
    subst hm
    cases h
    simp only [ah] at ha
    obtain ⟨f,f1,f2⟩:=ha
    rw [f2]
    obtain ⟨c,r1,r2,r3⟩:=bV hI.len hb
    obtain ⟨a',b',r,c',x1,x2,x3,x4,x5⟩:=r1
    rw [f1] at x1;cases x1
    rw [g1] at x2;cases x2
    simp only [zX,Option.some.injEq] at x3
    subst x3
    simp only at x4
    split at x4
    ·rename_i hj
     cases x4;cases x5
     have hle:n.toNat * u.size+u.size≤m' * u.size:=by
      have:=Nat.mul_le_mul_right u.size (show n.toNat+1≤m' from hj.2)
      rw [Nat.add_mul,Nat.one_mul] at this;exact this
     have hag1:bD (.arr m' u) f = .agg (enc (.arr m' u) f):=dA rfl f
     rw [hag1]
     have hlen:(enc (.arr m' u) f).length=m' * u.size:=ak _ _
     refine ⟨fun e0=>?_,hj.1,by omega,by simp only [V.cells,List.length_map,← hsz];rw [hlen];exact hle,rfl,?_⟩
     ·rw [← hsz]
      subst e0
      rw [iK hua];omega
     ·have hp:=sF f hj.2 (o:=0) (m:=u.size) (by omega)
      simp only [Nat.add_zero,List.drop_zero] at hp
      rw [xC hua hsz (by rw [← hsz,hlen];exact hle) (by rw [← hsz,hp,List.take_of_length_le (by rw [ak];exact Nat.le_refl _)])]
      exact r2 _ (by simp only [ah];exact ⟨_,r3,rfl⟩)
    ·cases x4
   ·cases h
  ·cases h
 ·cases h
def Zo (nv:Nat) (a i:SV):Option (List (B×Ty)×SV) :=
 match asI i,a with
 | some (_,j),.e .str x=>some ([(.r2 .sidx x j,.int .u8)],.e (.int .u8) (.var nv))
 | _,_=>none
theorem VN {t:TypeId} {x ix:Operand} {a i z:SV} {bs:List (B×Ty)} (hop:o.op = .index t x ix) (ht:QI P t=none) (hu:P.underlying t=some .string) (h:Zo y.g.length a i=some (bs,z))
  (hI:Inst env y s) (ha:ah env a (s.get x)) (hi:ah env i (s.get ix)) (hb:iU CS bs env (Nx o s k z)):aP P S p o s k:=by
 unfold Zo at h
 split at h
 ·rename_i q j xe h1
  cases h
  obtain ⟨n,g1,g2⟩:=nK h1 hi
  simp only [ah] at ha
  obtain ⟨b,b1,b2⟩:=ha
  obtain ⟨r,r1,r2,r3⟩:=bV hI.len hb
  obtain ⟨a',b',rr,cc,x1,x2,x3,x4,x5⟩:=r1
  rw [b1] at x1;cases x1
  rw [g1] at x2;cases x2
  simp only [zX,Option.some.injEq] at x3
  subst x3
  simp only at x4
  split at x4
  ·rename_i h0
   obtain ⟨c,c1,rfl⟩:=Option.map_eq_some_iff.1 x4
   cases x5
   simp only [aP,hop,g2,kG,ht,hu,b2]
   exact ⟨h0,c,c1,r2 _ ⟨_,r3,rfl⟩⟩
  ·cases x4
 ·cases h
theorem RV {t e:TypeId} {x ix:Operand} {m:Nat} {a i z:SV} {et:Option Ty} {bs:List (B×Ty)} (hop:o.op = .indexAddr t x ix) (he:fP P t=none) (ht:QI P t=some (m,e)) (hm:2≤m) (hsz:tsz P e≠0) (h:VL y.g.length m (tsz P e) a i et=some (bs,z))
  (hI:Inst env y s) (ha:ah env a (s.get x)) (hi:ah env i (s.get ix)) (hb:iU CS bs env (Nx o s k z)):aP P S p o s k:=by
 unfold VL at h
 split at h
 ·rename_i q j h1
  obtain ⟨n,g1,g2⟩:=nK h1 hi
  simp only [aP,hop,g2,kG,he,ht]
  split at h
  ·rename_i nm off
   simp only [ah] at ha
   split at h
   ·rename_i kk c
    split at h
    ·rename_i hc
     cases h
     simp only [E.val] at g1
     split at g1
     ·cases g1
      refine ⟨hsz,hc.1,by omega,hm,?_⟩
      rw [ha]
      exact hb _ (by simp only [ah])
     ·cases g1
    ·cases h
   ·split at h
    ·rename_i u
     split at h
     ·rename_i hs
      cases h
      simp only [iU] at hb
      obtain ⟨v,v1,⟨v2,v3⟩,v4⟩:=hb
      have hg:0≤n∧n<m:=by
       have hA:(E.p1 .nonneg j).val env=some ⟨.bool,decide (0≤n)⟩:=by simp [E.val,app1,g1,jV]
       by_cases hin:inR q (m:Int)=true
       ·have hB:(E.p2 (.bin .lss) j (.int q m)).val env=some ⟨.bool,decide (n<(m:Int))⟩:=by simp [E.val,IZ,g1,hin,l7,Vy]
        rw [jm hA hB (a2:=false) rfl] at v2
        by_cases h0:0≤n
        ·simp [h0] at v2;exact ⟨h0,v2⟩
        ·simp [h0] at v2
       ·simp [E.val,IZ,g1,hin,X6] at v2
      refine ⟨hsz,hg.1,hg.2,hm,?_⟩
      rw [ha]
      refine v4 _ ?_
      simp only [ah]
      exact ⟨q,n,E.dB _ g1,hg.1,by omega,by rw [hs];rfl⟩
     ·cases h
    ·cases h
  ·rename_i u q' off
   split at h
   ·rename_i u'
    split at h
    ·rename_i hs
     obtain ⟨zz,h3,h4⟩:=Option.map_eq_some_iff.1 h
     cases h4
     simp only [ah] at ha
     obtain ⟨b,cs,e1,e2,e3⟩:=ha
     obtain ⟨f,f1,f2,f3,f4⟩:=GZ h3 e1
     obtain ⟨c,r1,r2,r3⟩:=bV hI.len hb
     obtain ⟨a',b',r,c',x1,x2,x3,x4,x5⟩:=r1
     rw [f1] at x1;cases x1
     rw [g1] at x2;cases x2
     simp only [zX,Option.some.injEq] at x3
     subst x3
     simp only at x4
     split at x4
     ·rename_i hn
      cases x4;cases x5
      refine ⟨hsz,hn.1,by omega,hm,?_⟩
      rw [e2]
      refine r2 _ ?_
      simp only [ah]
      refine ⟨_,_,r3,rfl,?_⟩
      rw [List.drop_zero]
      have h6:=EH (inn:=0) (sz:=u'.size) (w:=u') (c:=f ⟨n.toNat,hn.2⟩) (ds:=enc u b) hn.2 f3 (by rw [ak];exact f2) (by omega) (by rw [List.drop_zero,List.take_of_length_le (by rw [ak];exact Nat.le_refl _)])
      rw [h6.2,Nat.add_zero,← List.drop_drop,← hs]
      exact (List.take_prefix _ _).trans (xE _ e3)
     ·cases x4
    ·cases h
   ·cases h
  ·cases h
 ·cases h
end
end Go.Tx
namespace Go.Tx
open Go Go.Ab
section
variable {P:Program} {S:tu} {CS:Calls'} {env:List Val} {y:Sy} {s:Sa} {p:Name} {o:Oper} {k:Sa→Prop}
def loE:Option SV→Option E
 | some l=>(asI l).map fun r=>r.2
 | none=>some (.int .i64 0)
def hiE (x:E):Option SV→Option E
 | some l=>(asI l).map fun r=>r.2
 | none=>some (.p1 .len x)
def G5 (a:SV) (hi:Option SV) (sz:Nat) (t:Ty) (x:E):SV:=match a,hi with
 | .own i z _ _,none=>if z=sz then .own i z t x else .e (.sl t) x
 | _,_=>.e (.sl t) x
def Zp (nv:Nat) (w:Option Ty) (sz:Nat) (a:SV) (lo hi:Option SV):Option (List (B×Ty)×SV) :=
 match asS w a with
 | some (t,x)=>match loE lo,hiE x hi with
  | some l,some h=>if t.size=sz∧sz≠0 then some ([(.r3 .slc x l h,.sl t)],G5 a hi sz t (.var nv)) else none
  | _,_=>none
 | none=>none
def RX (env:List Val) (s:Sa):Option Operand→Option SV→Prop
 | some l,some c=>ah env c (s.get l)
 | none,none=>True
 | _,_=>False
theorem KQ {env' : List Val} {a:SV} {v:V} {hi:Option Operand} {his:Option SV} {w:Option Ty} {t:Ty} {q x:E} {sz:Nat} {l:List t.den} (ha:asS w a=some (t,q)) (hv:ah env a v) (hh:RX env s hi his) (hz:t.size=sz) (hx:x.val env' = some ⟨.sl t,l⟩) :
  ah env' (G5 a his sz t x) (wE v hi sz (l.map (bD t))):=by
 have he:ah env' (.e (.sl t) x) (.d (.sl (l.map (bD t)))):=by simp only [ah];exact ⟨l,hx,by rw [NY]⟩
 cases a with
 | own i z t0 x0 =>
  simp only [ah] at hv
  obtain ⟨al,h1,h2,rfl⟩:=hv
  cases hi with
  | none =>
   cases his with
   | some c=>exact hh.elim
   | none =>
    simp only [G5,wE]
    split
    ·rename_i e;subst e
     simp only [ah];exact ⟨l,hx,hz,rfl⟩
    ·exact he
  | some h' =>
   cases his with
   | none=>exact hh.elim
   | some c=>exact he
 | gd gs x0=>simp [asS] at ha
 | e t0 x0=>simp only [ah] at hv;obtain ⟨al,h1,rfl⟩:=hv;exact he
 | nil=>simp only [ah] at hv;subst hv;exact he
 | kd cs=>simp only [ah] at hv;subst hv;exact he
 | _=>simp [asS] at ha
theorem VO {t e:TypeId} {x:Operand} {lo hi:Option Operand} {w:Option Ty} {a z:SV} {los his:Option SV} {bs:List (B×Ty)} (hop:o.op = .slice t x lo hi none) (he:fP P t=some e) (h:Zp y.g.length w (tsz P e) a los his=some (bs,z))
  (hI:Inst env y s) (ha:ah env a (s.get x)) (hlo:RX env s lo los) (hhi:RX env s hi his)
  (hb:iU CS bs env (Nx o s k z)):aP P S p o s k:=by
 unfold Zp at h
 split at h
 ·rename_i u q h1
  split at h
  ·rename_i l hh h2 h3
   split at h
   ·rename_i hc
    cases h
    obtain ⟨xs,e1,e2⟩:=sJ h1 ha
    have core:∀ (q1 q2:IntKind) (i j:Int),l.val env=some ⟨.int q1,i⟩→hh.val env=some ⟨.int q2,j⟩→0≤i∧i≤j∧j≤xs.length∧k (s.put o.dst (wE (s.get x) hi (tsz P e) (((xs.map (bD u)).take j.toNat).drop i.toNat))):=by
     intro q1 q2 i j l1 m1
     obtain ⟨c,r1,r2,r3⟩:=bV hI.len hb
     obtain ⟨a',b',d',r,c',x1,x2,x3,x4,x5,x6⟩:=r1
     rw [e1] at x1;cases x1
     rw [l1] at x2;cases x2
     rw [m1] at x3;cases x3
     simp only [KO,Option.some.injEq] at x4
     subst x4
     simp only at x5
     split at x5
     ·rename_i hn
      cases x5;cases x6
      refine ⟨hn.1,hn.2.1,hn.2.2,r2 _ ?_⟩
      have:=KQ (hi:=hi) h1 ha hhi hc.1 r3
      rw [List.map_drop,List.map_take] at this
      exact this
     ·cases x5
    have hall:∀ d∈xs.map (bD u),d.cells.length=tsz P e:=fun d hd=>by
     obtain ⟨z,_,rfl⟩:=List.mem_map.1 hd
     rw [aF,ak];exact hc.1
    cases lo with
    | none =>
     cases los with
     | some c=>exact hlo.elim
     | none =>
      cases h2
      cases hi with
      | none =>
       cases his with
       | some c=>exact hhi.elim
       | none =>
        cases h3
        obtain ⟨k1,k2,k3,k4⟩:=core .i64 .i64 0 xs.length rfl (by simp [E.val,app1,e1,jV])
        simp only [aP,hop,he,e2]
        rw [List.length_map]
        exact ⟨hc.2,k1,k2,k3,fun _=>hall,k4⟩
      | some hi =>
       cases his with
       | none=>exact hhi.elim
       | some c =>
        obtain ⟨⟨q2,z'⟩,h4,h5⟩:=Option.map_eq_some_iff.1 h3
        simp only at h5;subst h5
        obtain ⟨j,g1,g2⟩:=nK h4 hhi
        obtain ⟨k1,k2,k3,k4⟩:=core .i64 q2 0 j rfl g1
        simp only [aP,hop,he,e2,g2,kG]
        rw [List.length_map]
        exact ⟨hc.2,k1,k2,k3,fun _=>hall,k4⟩
    | some lo =>
     cases los with
     | none=>exact hlo.elim
     | some c1 =>
      obtain ⟨⟨q1,z1⟩,h6,h7⟩:=Option.map_eq_some_iff.1 h2
      simp only at h7;subst h7
      obtain ⟨i,f1,f2⟩:=nK h6 hlo
      cases hi with
      | none =>
       cases his with
       | some c=>exact hhi.elim
       | none =>
        cases h3
        obtain ⟨k1,k2,k3,k4⟩:=core q1 .i64 i xs.length f1 (by simp [E.val,app1,e1,jV])
        simp only [aP,hop,he,e2,f2,kG]
        rw [List.length_map]
        exact ⟨hc.2,k1,k2,k3,fun _=>hall,k4⟩
      | some hi =>
       cases his with
       | none=>exact hhi.elim
       | some c =>
        obtain ⟨⟨q2,z'⟩,h4,h5⟩:=Option.map_eq_some_iff.1 h3
        simp only at h5;subst h5
        obtain ⟨j,g1,g2⟩:=nK h4 hhi
        obtain ⟨k1,k2,k3,k4⟩:=core q1 q2 i j f1 g1
        simp only [aP,hop,he,e2,f2,g2,kG]
        rw [List.length_map]
        exact ⟨hc.2,k1,k2,k3,fun _=>hall,k4⟩
   ·cases h
  ·cases h
 ·cases h
def notE:E→E
 | .bool b=>.bool (!b)
 | x=>.p1 .not x
theorem VP {env:List Val} {x:E} {b:Bool} (h:x.val env=some ⟨.bool,b⟩):(notE x).val env=some ⟨.bool,!b⟩:=by
 unfold notE
 split
 ·cases h;rfl
 ·simp [E.val,app1,h,jV]
def unS (op:UnOp):SV→Option SV
 | .e .bool x=>match op with | .not=>some (.e .bool (notE x)) | _=>none
 | .e (.int q) x=>match op with | .neg=>some (.e (.int q) (.p1 .neg x)) | _=>none
 | _=>none
theorem Ya {op:UnOp} {t:TypeId} {x:Operand} {a z:SV} (hop:o.op = .unOp op t x) (h:unS op a=some z) (ha:ah env a (s.get x)) (hb:Nx o s k z env):aP P S p o s k:=by
 simp only [aP,hop]
 unfold unS at h
 split at h
 ·split at h
  ·cases h
   simp only [ah] at ha
   obtain ⟨b,h1,h2⟩:=ha
   rw [h2,dP]
   exact hb _ (by simp only [ah];exact ⟨!b,VP h1,rfl⟩)
  ·cases h
 ·split at h
  ·rename_i q _ _
   cases h
   simp only [ah] at ha
   obtain ⟨b,h1,h2⟩:=ha
   rw [h2,iM]
   exact hb _ (by simp only [ah];exact ⟨q.wrap (0 - b),by simp [E.val,app1,h1,jV],rfl⟩)
  ·cases h
 ·cases h
def VQ (kd:IntKind):SV→Option SV
 | .e (.int q) x=>if q=kd then some (.e (.int q) x) else some (.e (.int kd) (.p1 (.conv kd) x))
 | _=>none
theorem wrap_in {q:IntKind} {n:Int} (h:inR q n=true):q.wrap n=n:=by
 cases q <;> simp only [inR,decide_eq_true_eq] at h <;> simp only [IntKind.wrap,IntKind.bits,IntKind.signed] <;> simp <;> omega
theorem RY {src t:TypeId} {x:Operand} {kd:IntKind} {a z:SV} (hop:o.op = .convert src t x) (ht:P.underlying t=some (.int kd)) (hs:(P.underlying src).isSome=true) (hw:dh env) (h:VQ kd a=some z) (ha:ah env a (s.get x)) (hb:Nx o s k z env):aP P S p o s k:=by
 unfold VQ at h
 split at h
 ·rename_i q e
  simp only [ah] at ha
  obtain ⟨b,h1,h2⟩:=ha
  simp only [aP,hop,ht,h2,iM]
  refine ⟨hs,?_⟩
  split at h
  ·rename_i e
   subst e
   cases h
   refine hb _ ?_
   simp only [ah]
   exact ⟨b,h1,by rw [wrap_in (jG.1 (E.uT hw h1))];rfl⟩
  ·cases h
   exact hb _ (by simp only [ah];exact ⟨kd.wrap b,by simp [E.val,app1,h1,jV],rfl⟩)
 ·cases h
def Zq (op:BinOp) (a:SV):Option (List (B×Ty)×SV) :=
 match a with
 | .nil=>match op with | .eql=>some ([],.e .bool (.bool true)) | .neq=>some ([],.e .bool (.bool false)) | _=>none
 | a=>match asS none a with
  | some (_,x)=>match op with
   | .eql=>some ([(.guard (.p1 .some1 x),.unit)],.e .bool (.bool false))
   | .neq=>some ([(.guard (.p1 .some1 x),.unit)],.e .bool (.bool true))
   | _=>none
  | none=>none
theorem VR {op:BinOp} {t e:TypeId} {x z yt} {a w:SV} {bs:List (B×Ty)} (hop:o.op = .binOp op t x z yt) (ht:fP P t=some e) (hz:s.get z = .nil) (h:Zq op a=some (bs,w)) (ha:ah env a (s.get x)) (hb:iU CS bs env (Nx o s k w)):aP P S p o s k:=by
 simp only [aP,hop,hz,ht]
 unfold Zq at h
 split at h
 ·simp only [ah] at ha
  simp only [ha]
  split at h
  ·cases h;exact hb _ (by simp only [ah];exact ⟨true,rfl,rfl⟩)
  ·cases h;exact hb _ (by simp only [ah];exact ⟨false,rfl,rfl⟩)
  ·cases h
 ·split at h
  ·rename_i u q h1
   obtain ⟨xs,e1,e2⟩:=sJ h1 ha
   have key:∀ (r:Bool),bs=[(.guard (.p1 .some1 q),.unit)]→w = .e .bool (.bool r)→xs≠[]∧k (s.put o.dst (.d (.v (.bool r)))):=by
    intro r h3 h4
    subst h3;subst h4
    simp only [iU] at hb
    obtain ⟨v,v1,⟨v2,v3⟩,v4⟩:=hb
    have:(E.p1 .some1 q).val env=some ⟨.bool,!xs.isEmpty⟩:=by simp [E.val,app1,e1,jV]
    rw [this] at v2
    cases hx:xs.isEmpty with
    | true=>rw [hx] at v2;cases v2
    | false =>
     refine ⟨fun e=>by rw [e] at hx;simp at hx,v4 _ (by simp only [ah];exact ⟨r,rfl,rfl⟩)⟩
   have hs:(s.get x = .d (.sl (xs.map (bD u)))∨∃ i z,s.get x = .own i z (xs.map (bD u))):=by
    have:=e2
    unfold asS at h1
    split at h1
    ·simp only [ah] at ha;obtain ⟨b,_,hb'⟩:=ha;rw [hb'] at e2 ⊢; simp only [NY,sliceOf,Option.some.injEq] at e2 ⊢; exact .inl (by rw [e2])
    ·simp only [ah] at ha;obtain ⟨b,_,_,hb'⟩:=ha;rw [hb'] at e2 ⊢; simp only [sliceOf,Option.some.injEq] at e2;exact .inr ⟨_,_,by rw [e2]⟩
    ·cases h1
    ·cases h1
   have hne:∀ {r:Bool},xs≠[]→(xs.map (bD u)=[]→r=true):=fun hx he=>by
    have:=List.map_eq_nil_iff.1 he;exact absurd this hx
   split at h
   ·cases h
    obtain ⟨k1,k2⟩:=key false rfl rfl
    rcases hs with hs | ⟨i,zz,hs⟩
    ·simp only [hs];exact ⟨fun he=>absurd (List.map_eq_nil_iff.1 he) k1,k2⟩
    ·simp only [hs];exact ⟨fun he=>absurd (List.map_eq_nil_iff.1 he) k1,k2⟩
   ·cases h
    obtain ⟨k1,k2⟩:=key true rfl rfl
    rcases hs with hs | ⟨i,zz,hs⟩
    ·simp only [hs];exact ⟨fun he=>absurd (List.map_eq_nil_iff.1 he) k1,k2⟩
    ·simp only [hs];exact ⟨fun he=>absurd (List.map_eq_nil_iff.1 he) k1,k2⟩
   ·cases h
  ·cases h
def Zr (P:Program) (t:TypeId) (a:SV):Option SV :=
 match fP P t with
 | some _=>match a with
  | .nil=>some (.e (.int .i64) (.int .i64 0))
  | a=>(asS none a).map fun r=>.e (.int .i64) (.p1 .len r.2)
 | none=>match P.underlying t with
  | some .string=>match a with
   | .e .str x=>some (.e (.int .i64) (.p1 .len x))
   | _=>none
  | some (.array n _)=>if n≤9223372036854775807∧inR .i64 n=true then some (.e (.int .i64) (.int .i64 n)) else none
  | _=>none
theorem VT {c:Call} {x:Operand} {t:TypeId} {ts:List TypeId} {a z:SV} (hop:o.op = .call c) (hc:c.callee = .builtin .len) (hx:c.args.toList=[x]) (ht:c.argTypes.toList=t::ts) (h:Zr P t a=some z) (ha:ah env a (s.get x)) (hb:Nx o s k z env):aP P S p o s k:=by
 simp only [aP,hop,hc,hx,ht,List.map_cons,List.map_nil]
 unfold Zr at h
 split at h
 ·rename_i e he
  split at h
  ·cases h
   simp only [ah] at ha
   simp only [he,ha,sliceOf]
   exact hb _ (by simp only [ah];exact ⟨0,rfl,rfl⟩)
  ·obtain ⟨⟨u,q⟩,h1,h2⟩:=Option.map_eq_some_iff.1 h
   cases h2
   obtain ⟨xs,e1,e2⟩:=sJ h1 ha
   simp only [he,e2]
   exact hb _ (by simp only [ah];exact ⟨xs.length,by simp [E.val,app1,e1,jV],by rw [List.length_map];rfl⟩)
 ·rename_i he
  split at h
  ·rename_i hu
   split at h
   ·cases h
    simp only [ah] at ha
    obtain ⟨b,h1,h2⟩:=ha
    simp only [he,hu,h2,I8]
    exact hb _ (by simp only [ah];exact ⟨b.size,by simp [E.val,app1,h1,jV],rfl⟩)
   ·cases h
  ·rename_i n e' hu
   split at h
   ·rename_i hn
    cases h
    simp only [he,hu]
    exact ⟨hn.1,hb _ (by simp only [ah];exact ⟨n,by simp [E.val,hn.2],rfl⟩)⟩
   ·cases h
  ·cases h
def mmS (gt:Bool) (a b:SV):Option SV :=
 match a,b with
 | .e (.int q) x,.e (.int r) z=>if q=r then some (.e (.int q) (.pick (.p2 (.bin (if gt then .gtr else .lss)) z x) z x)) else none
 | _,_=>none
theorem Ut {c:Call} {gt:Bool} {x z:Operand} {a b w:SV} (hop:o.op = .call c) (hc:c.callee = .builtin (if gt then .max else .min)) (hx:c.args.toList=[x,z]) (h:mmS gt a b=some w) (ha:ah env a (s.get x)) (hb' : ah env b (s.get z)) (hb:Nx o s k w env):aP P S p o s k:=by
 unfold mmS at h
 split at h
 ·rename_i q e r f
  split at h
  ·rename_i hqr
   subst hqr
   cases h
   simp only [ah] at ha hb'
   obtain ⟨m,h1,h2⟩:=ha
   obtain ⟨n,h3,h4⟩:=hb'
   cases gt with
   | true =>
    simp only [if_true] at hc hb
    simp only [aP,hop,hc,hx,List.map_cons,List.map_nil,h2,h4,iM]
    refine ⟨trivial,hb _ ?_⟩
    simp only [ah]
    have hg:(E.p2 (.bin .gtr) f e).val env=some ⟨.bool,decide (n>m)⟩:=by simp [E.val,IZ,h1,h3,l7,Vy]
    exact ⟨_,jm hg h3 h1,by simp only [decide_eq_true_eq];split <;> rfl⟩
   | false =>
    simp only [Bool.false_eq_true,if_false] at hc hb
    simp only [aP,hop,hc,hx,List.map_cons,List.map_nil,h2,h4,iM]
    refine ⟨trivial,hb _ ?_⟩
    simp only [ah]
    have hg:(E.p2 (.bin .lss) f e).val env=some ⟨.bool,decide (n<m)⟩:=by simp [E.val,IZ,h1,h3,l7,Vy]
    exact ⟨_,jm hg h3 h1,by simp only [decide_eq_true_eq];split <;> rfl⟩
  ·cases h
 ·cases h
theorem KR {x:Operand} {i:Nat} {vs:List SV} {z:SV} (hop:o.op = .extract x i) (h:vs[i]? = some z) (ha:ah env (.tup vs) (s.get x)) (hb:Nx o s k z env):aP P S p o s k:=by
 simp only [ah] at ha
 obtain ⟨c,h1,h2⟩:=ha
 obtain ⟨v,h3,h4⟩:=h2.get h
 simp only [aP,hop,h1,h3]
 exact hb _ h4
def getAll (g:Operand→Option SV):List Operand→Option (List SV)
 | []=>some []
 | o::os=>match g o,getAll g os with
  | some x,some xs=>some (x::xs)
  | _,_=>none
theorem l9 {g:Operand→Option SV} (hg:∀ o x,g o=some x→ah env x (s.get o)):∀ {os:List Operand} {xs:List SV},getAll g os=some xs→aA env xs (os.map s.get)
 | [],xs,h=>by cases h;simp [aA]
 | o::os,xs,h=>by
  simp only [getAll] at h
  split at h
  ·rename_i x xs' h1 h2
   cases h
   simp only [List.map_cons,aA]
   exact ⟨_,_,rfl,hg _ _ h1,l9 hg h2⟩
  ·cases h
theorem G6 {f:FuncId} {cap:Array Operand} {xs:List SV} (hop:o.op = .makeFunc (.func f) #[] cap) (h:aA env xs (cap.toList.map s.get)) (hb:Nx o s k (.fn f xs) env):aP P S p o s k:=by
 simp only [aP,hop]
 exact ⟨trivial,hb _ (by simp only [ah];exact ⟨_,rfl,h⟩)⟩
def xG (t:Ty) (v:V):Bool:=match v with
 | .d (.v c)=>decide (t.ag=some false)&&(oH t [.v c]).isSome&&(match oH t [.v c] with | some []=>true | _=>false)
 | _=>false
theorem zZ {t:Ty} {v:V} (h:xG t v=true):v = .d (bD t t.zero)∧t.ag=some false:=by
 unfold xG at h
 split at h
 ·rename_i c
  simp only [Bool.and_eq_true,decide_eq_true_eq] at h
  obtain ⟨⟨h1,h2⟩,h3⟩:=h
  split at h3
  ·rename_i he
   have:=GR _ _ _ he
   rw [List.append_nil,(jP h1 _).1] at this
   simp only [List.cons.injEq,and_true] at this
   exact ⟨by rw [this],h1⟩
  ·cases h3
 ·cases h
def VU (k:IntKind) (kd:IntKind) (t:Ty) (m:E) (q:IntKind) (a:E) (ok:Bool):Option SV :=
 if k=kd∧q=kd then some (if ok then .tup [.e t (.p2 .mget m a),.e .bool (.p2 .mhas m a)] else .e t (.p2 .mget m a)) else none
theorem EI {t:Ty} (a:Int):∀ {l:List (Int×t.den)} {kvs:List (Int×Value)},l.map (fun y=>(y.1,Un t y.2))=kvs.map (fun y=>(y.1,some y.2)) →
  (∃ c,lI a kvs=some c ∧ .v c=bD t (bU t.zero l a)∧GI l a=true)∨(lI a kvs=none∧bU t.zero l a=t.zero∧GI l a=false)
 | [],[],_=>.inr ⟨rfl,rfl,rfl⟩
 | [],_::_,h=>by simp at h
 | _::_,[],h=>by simp at h
 | (b,x)::l,(b',c)::kvs,h=>by
  simp only [List.map_cons,List.cons.injEq,Prod.mk.injEq] at h
  obtain ⟨⟨h1,h2⟩,h3⟩:=h
  subst h1
  simp only [lI,bU,GI]
  split
  ·exact .inl ⟨c,rfl,(I5 h2).symm,rfl⟩
  ·exact EI a h3
theorem RZ {t et:TypeId} {x ix:Operand} {ok:Bool} {n:Name} {kd k' q:IntKind} {u:Ty} {m a:E} {z:SV} (hop:o.op = .lookup t x ix ok) (hk:Ba P t=some kd) (he:MC P t=some et) (hz:xG u (aY P et)=true)
  (hn:s.get x = .mref n) {c:V} (hl:aj n s.bx=some c) (hc:ah env (.mpc k' u m) c) (hi:ah env (.e (.int q) a) (s.get ix)) (h:VU k' kd u m q a ok=some z) (hb:Nx o s k z env):aP P S p o s k:=by
 unfold VU at h
 split at h
 ·rename_i hh
  obtain ⟨rfl,rfl⟩:=hh
  simp only [ah] at hc hi
  obtain ⟨l,kvs,e1,rfl,e2⟩:=hc
  obtain ⟨i,e3,e4⟩:=hi
  obtain ⟨z1,z2⟩:=zZ hz
  simp only [aP,hop,hk,he,hn,hl,e4,iM]
  refine ⟨trivial,trivial,by rw [z1];rfl,?_⟩
  have v1:(E.p2 .mget m a).val env=some ⟨u,bU u.zero l i⟩:=by simp [E.val,IZ,e1,e3,l7]
  have v2:(E.p2 .mhas m a).val env=some ⟨.bool,GI l i⟩:=by simp [E.val,IZ,e1,e3,l7]
  have hv:((lI i kvs).map (fun c=>V.d (.v c))).getD (aY P et) = .d (bD u (bU u.zero l i))∧(lI i kvs).isSome=GI l i:=by
   rcases EI i e2 with ⟨c,g1,g2,g3⟩ | ⟨g1,g2,g3⟩
   ·rw [g1,g3];exact ⟨by simp only [Option.map_some,Option.getD_some,g2],rfl⟩
   ·rw [g1,g2,g3];exact ⟨by simp only [Option.map_none,Option.getD_none,z1],rfl⟩
  rw [hv.1,hv.2]
  cases h
  cases ok with
  | true =>
   refine hb _ ?_
   simp only [if_true,ah]
   refine ⟨_,rfl,?_⟩
   simp only [aA,ah]
   exact ⟨_,_,rfl,⟨_,v1,rfl⟩,_,_,rfl,⟨_,v2,rfl⟩,rfl⟩
  | false =>
   refine hb _ ?_
   simp only [Bool.false_eq_true,if_false,ah]
   exact ⟨_,v1,rfl⟩
 ·cases h
end
end Go.Tx
namespace Go.Tx
open Go Go.Ab
section
variable {P:Program} {S:tu} {CS:Calls'} {env:List Val} {y:Sy} {s:Sa} {p:Name} {o:Oper} {k:Sa→Prop}
theorem Oe (ds:List D):eF V.lu (ds.map V.d)=some ds:=by
 induction ds with
 | nil=>rfl
 | cons d ds ih=>simp [eF,ih,V.lu]
theorem vU {f:V→Option D}:∀ {vs:List V} {ds:List D},eF f vs=some ds→ds.length=vs.length
 | [],ds,h=>by cases h;rfl
 | v::vs,ds,h=>by
  simp only [eF] at h
  split at h
  ·rename_i x xs h1 h2;cases h;simp [vU h2]
  ·cases h
theorem EJ {f:V→Option D}:∀ {n:Nat} {vs:List V} {ds:List D},eF f vs=some ds→eF f (vs.take n)=some (ds.take n)
 | 0,vs,ds,h=>by simp [eF]
 | n+1,[],ds,h=>by cases h;simp [eF]
 | n+1,v::vs,ds,h=>by
  simp only [eF] at h
  split at h
  ·rename_i x xs h1 h2;cases h;simp only [List.take_succ_cons];exact oI h1 (EJ h2)
  ·cases h
theorem EK {f:V→Option D}:∀ {n:Nat} {vs:List V} {ds:List D},eF f vs=some ds→eF f (vs.drop n)=some (ds.drop n)
 | 0,vs,ds,h=>h
 | n+1,[],ds,h=>by cases h;simp [eF]
 | n+1,v::vs,ds,h=>by
  simp only [eF] at h
  split at h
  ·rename_i x xs h1 h2;cases h;simp only [List.drop_succ_cons];exact EK h2
  ·cases h
theorem Og {vs us:List V} {ds es:List D} {off:Nat} (h1:eF V.lu vs=some ds) (h2:eF V.lu us=some es):eF V.lu (over vs us off)=some (over ds es off):=by
 simp only [over]
 rw [vU h2]
 exact vP (vP (EJ h1) h2) (EK h1)
theorem Oh {w:Option Ty} {z:SV} {v:V} {t:Ty} {x:E} (h:asE w z=some (t,x)) (hv:ah env z v):∃ a,x.val env=some ⟨t,a⟩∧eF V.lu v.cells=some (enc t a)∧isCells v=true:=by
 have h':=h
 have hv':=hv
 cases z <;> simp only [asE,Uo,reduceCtorEq] at h
 case e u q =>
  cases h;simp only [ah] at hv;obtain ⟨a,h1,rfl⟩:=hv
  exact ⟨a,h1,by rw [iL,aF];exact Oe _,rfl⟩
 case own i sz u q =>
  cases h;simp only [ah] at hv;obtain ⟨a,h1,h2,rfl⟩:=hv
  exact ⟨a,h1,rfl,rfl⟩
 case nil =>
  simp only [ah] at hv;subst hv
  split at h
  ·cases h;exact ⟨[],rfl,rfl,rfl⟩
  ·cases h
 case kd cs =>
  obtain ⟨a,h1,h2⟩:=qB h' hv'
  simp only [ah] at hv;subst hv
  simp only [V.toD,V.lu,Option.some.injEq] at h2
  refine ⟨a,h1,?_,rfl⟩
  rw [iL,D.NK,← aF,← h2]
  exact Oe _
 case mix t0 x0 os zs =>
  simp only [ah] at hv
  obtain ⟨a,c,h1,rfl,h3,h4,h5⟩:=hv
  split at h
  ·rename_i u e hp
   split at h
   ·rename_i hag
    cases h
    obtain ⟨b,r1,r2,r3⟩:=oJ hp h1 h4 h3 (vS h5)
    exact ⟨b,r1,r3,rfl⟩
   ·cases h
  ·cases h
 case agg cs =>
  split at h
  ·split at h
   ·rename_i w' u x' h1
    split at h
    ·rename_i ha
     cases h
     simp only [ah] at hv
     obtain ⟨c,rfl,h2⟩:=hv
     obtain ⟨a,us,vs',e1,e2,e3,e4⟩:=BO _ _ _ _ _ _ h1 h2
     simp only [aA] at e3
     subst e3
     rw [List.append_nil] at e2
     subst e2
     exact ⟨a,e1,e4,rfl⟩
    ·cases h
   ·cases h
  ·cases h
def Si (place:Nat→Option (Nat×Nat×Option Ty)) (t:Ty) (x:E):List (Nat×SV)→Option (Ty×E)
 | []=>some (t,x)
 | (i,v)::rest=>match place i with
  | some (off,sz,w)=>match asE w v with
   | some (u,e)=>if u.size=sz then (match ty2 (.upd off) t u with
    | some t'=>Si place t' (.p2 (.upd off) x e) rest
    | none=>none) else none
   | none=>none
  | none=>none
theorem Ja {place:Nat→Option (Nat×Nat)} {pl:Nat→Option (Nat×Nat×Option Ty)} (hp:∀ i r,pl i=some r→place i=some (r.1,r.2.1)):∀ {ps:List (Nat×SV)} {qs:List (Nat×V)} {t t' : Ty} {x x' : E} {a:t.den} {vs:List V},
  Si pl t x ps=some (t',x')→aG env ps qs→x.val env=some ⟨t,a⟩→eF V.lu vs=some (enc t a)→t.ag=some true→∃ a' vs',yY place vs qs=some vs' ∧ x'.val env=some ⟨t',a'⟩∧eF V.lu vs' = some (enc t' a')∧t'.ag=some true
 | [],qs,t,t',x,x',a,vs,h,hk,hx,hv,ha=>by
  cases h
  simp only [aG] at hk
  subst hk
  exact ⟨a,vs,rfl,hx,hv,ha⟩
 | (i,z)::ps,qs,t,t',x,x',a,vs,h,hk,hx,hv,ha=>by
  simp only [aG] at hk
  obtain ⟨v,qs',rfl,h2,h3⟩:=hk
  simp only [Si] at h
  split at h
  ·rename_i off sz w hpl
   split at h
   ·rename_i u e he
    split at h
    ·rename_i hs
     split at h
     ·rename_i t1 ht1
      obtain ⟨b,e1,e2,e3⟩:=Oh he h2
      obtain ⟨f,k1,k2⟩:=GK ht1 hx e1
      obtain ⟨g1,g2,g3,g4⟩:=jJ _ _ _ _ _ (show uS t u off=some ⟨t1,f⟩ from k1)
      have hlen:v.cells.length=sz:=by rw [← vU e2,ak];exact hs
      have hvl:vs.length=t.size:=by rw [← vU hv,ak]
      have hov:=Og (off:=off) hv e2
      rw [← g4] at hov
      obtain ⟨a',vs',r1,r2⟩:=Ja hp h h3 k2 hov (by rw [g3,ha])
      refine ⟨a',vs',?_,r2⟩
      simp only [yY,hp _ _ hpl]
      rw [if_pos ⟨e3,hlen,by omega⟩]
      simp only [over,hlen] at r1
      exact r1
     ·cases h
    ·cases h
   ·cases h
  ·cases h
def BX (P:Program) (t:TypeId) (i:Nat):Option (Nat×Nat×Option Ty) :=
 match P.underlying t with
 | some (.struct fs)=>(fs[i]?).map fun f=>(f.offset,tsz P f.type,tyD P f.type)
 | some (.array _ e)=>some (i * tsz P e,tsz P e,tyD P e)
 | _=>none
theorem Aa {t:TypeId}:∀ i r,BX P t i=some r→DJ P t i=some (r.1,r.2.1):=by
 intro i r h
 unfold BX at h
 unfold DJ
 split at h
 ·rename_i fs hf
  obtain ⟨f,h1,rfl⟩:=Option.map_eq_some_iff.1 h
  simp only [hf,h1,Option.map_some]
 ·rename_i n e hf
  cases h
  simp only [hf]
 ·cases h
def G7 (w:Ty) (ds:List D):Bool:=match oH w ds with | some []=>true | _=>false
theorem KT {w:Ty} {ds:List D} (h:G7 w ds=true):ds=enc w w.zero:=by
 unfold G7 at h
 split at h
 ·rename_i he;have:=GR _ _ _ he;rwa [List.append_nil] at this
 ·cases h
def zeroOf (P:Program) (t:TypeId):Option Ty :=
 match tyD P t with
 | some w=>match aY P t with
  | .d (.agg ds)=>if w.ag=some true∧G7 w ds=true then some w else none
  | v=>if xG w v=true then some w else none
 | none=>none
theorem xH {t:TypeId} {w:Ty} (h:zeroOf P t=some w):aY P t = .d (bD w w.zero)∧w.ag≠none:=by
 unfold zeroOf at h
 split at h
 ·rename_i w' hw
  split at h
  ·rename_i ds hd
   split at h
   ·rename_i hc
    cases h
    obtain ⟨h1,h2⟩:=hc
    rw [hd,dA h1,KT h2];exact ⟨rfl,by simp [h1]⟩
   ·cases h
  ·split at h
   ·rename_i hc
    cases h
    obtain ⟨h1,h2⟩:=zZ hc
    exact ⟨h1,by simp [h2]⟩
   ·cases h
 ·cases h
def Oi (P:Program) (t:TypeId) (ps:List (Nat×SV)):Option SV :=
 match zeroOf P t with
 | some w=>if w.ag=some true then (Si (BX P t) w (.zero w) ps).map fun r=>.e r.1 r.2 else none
 | none=>none
theorem Oj {t:TypeId} {parts:Array (Nat×Operand)} {ps:List (Nat×SV)} {z:SV} (hop:o.op = .build t parts) (ht:uM P t=true) (h:Oi P t ps=some z) (hk:aG env ps (parts.toList.map fun x=>(x.1,s.get x.2))) (hb:Nx o s k z env):aP P S p o s k:=by
 unfold Oi at h
 split at h
 ·rename_i w hw
  split at h
  ·rename_i ha
   obtain ⟨⟨t',x'⟩,h1,h2⟩:=Option.map_eq_some_iff.1 h
   cases h2
   obtain ⟨hz,_⟩:=xH hw
   obtain ⟨a',vs',r1,r2,r3,r4⟩:=Ja (fun i r h=>Aa i r h) h1 hk (a:=w.zero) rfl (vs:=qw P t) (by unfold qw;rw [hz,iL,aF];exact zB _ _) ha
   simp only [aP,hop]
   refine ⟨ht,by rw [hz];rfl,?_⟩
   rw [r1]
   refine hb _ ?_
   simp only [qX,r3,ah]
   exact ⟨a',r2,by rw [dA r4]⟩
  ·cases h
 ·cases h
def Ol:SV→Bool
 | .nil=>true
 | z=>Ur z
theorem qE {z:SV} (h:Ol z=true):single z=true:=by
 cases z <;> first | rfl | exact xB h
def Om (place:Nat→Option (Nat×Nat×Option Ty)) (t:Ty) (x:E) (os:List Nat) (zs:List SV):List (Nat×SV)→Option (Ty×E×List Nat×List SV)
 | []=>some (t,x,os,zs)
 | (i,v)::rest=>match place i with
  | some (off,sz,w)=>if Ol v=true then (if sz=1∧off+1≤t.size then Om place t x (off::(iV off 1 os zs).1) (v::(iV off 1 os zs).2) rest else none)
   else match X8 w v with
    | some (u,e)=>if u.size=sz then (match ty2 (.upd off) t u with
     | some t'=>Om place t' (.p2 (.upd off) x e) (iV off sz os zs).1 (iV off sz os zs).2 rest
     | none=>none) else none
    | none=>none
  | none=>none
theorem BZ {place:Nat→Option (Nat×Nat)} {pl:Nat→Option (Nat×Nat×Option Ty)} (hp:∀ i r,pl i=some r→place i=some (r.1,r.2.1)):∀ {ps:List (Nat×SV)} {qs:List (Nat×V)} {t:Ty} {x:E} {os:List Nat} {zs:List SV} {r:Ty×E×List Nat×List SV} {a:t.den} {c:List V},
  Om pl t x os zs ps=some r→aG env ps qs→x.val env=some ⟨t,a⟩→c.length=t.size→aT env os zs c→(∀ i,i<t.size→i ∉ os→c[i]? = ((enc t a)[i]?).map V.d)→t.ag=some true →
  ∃ c',yY place c qs=some c' ∧ ah env (.mix r.1 r.2.1 r.2.2.1 r.2.2.2) (.agg c')∧r.1.ag=some true
 | [],qs,t,x,os,zs,r,a,c,h,hk,hx,hl,hP,hr,ha=>by
  cases h
  simp only [aG] at hk
  subst hk
  exact ⟨c,rfl,by simp only [ah];exact ⟨a,c,hx,rfl,hl,hP,hr⟩,ha⟩
 | (i,z)::ps,qs,t,x,os,zs,r,a,c,h,hk,hx,hl,hP,hr,ha=>by
  simp only [aG] at hk
  obtain ⟨v,qs',rfl,h2,h3⟩:=hk
  simp only [Om] at h
  split at h
  ·rename_i off sz w hpl
   split at h
   ·rename_i hpat
    split at h
    ·rename_i hc
     obtain ⟨e1,e2⟩:=kV (qE hpat) h2
     have hlen:off+[v].length≤c.length:=by rw [hl];exact hc.2
     obtain ⟨q1,q2⟩:=ni (xs:=[v]) hP hlen
     simp only [List.length_cons,List.length_nil,Nat.zero_add] at q1 q2 hlen
     obtain ⟨c',r1,r2⟩:=BZ hp (c:=over c [v] off) h h3 hx (by rw [kT hlen];exact hl) ⟨off,_,rfl,⟨v,by rw [gX hlen,if_pos rfl],h2⟩,q1⟩ (fun i hi hn=>by
      simp only [List.mem_cons,not_or] at hn
      rw [gX hlen,if_neg hn.1]
      exact hr i hi fun hm=>by have:=q2 i hn.2 hm;omega) ha
     refine ⟨c',?_,r2⟩
     simp only [yY,hp _ _ hpl]
     rw [if_pos ⟨qC (qE hpat) h2,by rw [e1];exact hc.1.symm,by rw [hc.1];exact hlen⟩]
     rw [e1,hc.1]
     exact r1
    ·cases h
   ·split at h
    ·rename_i u e he
     split at h
     ·rename_i hs
      split at h
      ·rename_i t1 ht1
       obtain ⟨b,e1,e2⟩:=GY he h2
       obtain ⟨f,k1,k2⟩:=GK ht1 hx e1
       obtain ⟨g1,g2,g3,g4⟩:=jJ _ _ _ _ _ (show uS t u off=some ⟨t1,f⟩ from k1)
       have hcv:v.cells=(enc u b).map V.d:=by rw [e2,iL,aF]
       have hxl:((enc u b).map V.d).length=sz:=by rw [List.length_map,ak];exact hs
       have hlen:off+((enc u b).map V.d).length≤c.length:=by rw [hxl,hl];omega
       obtain ⟨q1,q2⟩:=ni (xs:=(enc u b).map V.d) hP hlen
       rw [hxl] at q1 q2
       obtain ⟨c',r1,r2⟩:=BZ hp (c:=over c ((enc u b).map V.d) off) h h3 k2 (by rw [kT hlen,hl,g2]) q1 (fun i hi hn=>by
        rw [g4]
        by_cases hin:off≤i∧i<off+sz
        ·rw [BU hin.1 (by rw [hxl];exact hin.2) hlen,BU hin.1 (by rw [ak,hs];exact hin.2) (by rw [ak,ak];exact g1),List.getElem?_map]
        ·rw [vT (by rw [hxl];omega) hlen,vT (by rw [ak,hs];omega) (by rw [ak,ak];exact g1)]
         exact hr i (by omega) fun hm=>hin (q2 i hn hm)) (by rw [g3,ha])
       refine ⟨c',?_,r2⟩
       simp only [yY,hp _ _ hpl]
       rw [if_pos ⟨by rw [e2];rfl,by rw [hcv];exact hxl,by rw [hxl] at hlen;exact hlen⟩]
       rw [hcv]
       simp only [over,hxl] at r1
       exact r1
      ·cases h
     ·cases h
    ·cases h
  ·cases h
def xI:Nat→List V→List Nat
 | _,[]=>[]
 | k,.nil::l=>k::xI (k+1) l
 | k,_::l=>xI (k+1) l
theorem Jb:∀ (l pre:List V) ,aT env (xI pre.length l) (List.replicate (xI pre.length l).length .nil) (pre++l)
 | [],pre=>rfl
 | x::l,pre=>by
  have ih:=Jb l (pre++[x])
  rw [List.length_append,List.append_assoc] at ih
  simp only [List.length_cons,List.length_nil,Nat.zero_add,List.singleton_append] at ih
  cases x with
  | nil=>exact ⟨pre.length,_,rfl,⟨.nil,by simp,rfl⟩,ih⟩
  | _=>exact ih
theorem Ac:∀ (l:List V) (k i:Nat),l[i]? = some .nil→k+i∈xI k l
 | [],k,i,h=>by simp at h
 | x::l,k,0,h=>by
  simp only [List.getElem?_cons_zero,Option.some.injEq] at h
  subst h;exact List.mem_cons_self
 | x::l,k,i+1,h=>by
  have ih:=Ac l (k+1) i (by simpa using h)
  rw [show k+1+i=k+(i+1) from by omega] at ih
  cases x with
  | nil=>exact List.mem_cons_of_mem _ ih
  | _=>exact ih
def Oo (P:Program) (t:TypeId) (ps:List (Nat×SV)):Option SV :=
 match zeroOf P t with
 | some w=>if w.ag=some true then (match Om (BX P t) w (.zero w) (xI 0 (qw P t)) (List.replicate (xI 0 (qw P t)).length .nil) ps with
  | some (t',x',os,zs)=>if zs.any solid=true then some (.mix t' x' os zs) else none
  | none=>none) else none
 | none=>none
theorem Oq {t:TypeId} {parts:Array (Nat×Operand)} {ps:List (Nat×SV)} {z:SV} (hop:o.op = .build t parts) (ht:uM P t=true) (h:Oo P t ps=some z) (hk:aG env ps (parts.toList.map fun x=>(x.1,s.get x.2))) (hb:Nx o s k z env):aP P S p o s k:=by
 unfold Oo at h
 split at h
 ·rename_i w hw
  split at h
  ·rename_i ha
   split at h
   ·rename_i t' x' os zs hf
    split at h
    ·rename_i hsol
     cases h
     obtain ⟨hz,_⟩:=xH hw
     obtain ⟨c',r1,r2,r3⟩:=BZ (fun i r h=>Aa i r h) hf hk (a:=w.zero) rfl (c:=qw P t) (by unfold qw;rw [nS,hz,iL,aF,List.length_map,ak]) (Jb (qw P t) []) (fun i _ hni=>by
      unfold qw at hni ⊢
      rcases wC (QJ P t) (aY P t).cells i with e | ⟨e,_,_⟩
      ·rw [e,hz,iL,aF,List.getElem?_map]
      ·exact absurd (by have:=Ac _ 0 i e;rwa [Nat.zero_add] at this) hni) ha
     simp only [aP,hop]
     refine ⟨ht,by rw [hz];rfl,?_⟩
     rw [r1]
     have r2':=r2
     simp only [ah] at r2
     obtain ⟨a,c,g1,g2,g3,g4,g5⟩:=r2
     cases g2
     have:=aT.fZ (f:=V.lu) (fun x v h1 h2=>(fZ h1 h2).1) g4 hsol
     refine hb _ ?_
     simp only [qX,this]
     exact r2'
    ·cases h
   ·cases h
  ·cases h
 ·cases h
def Y9 (t:Ty):List SV→Option (List E)
 | []=>some []
 | z::zs=>match asE (some t) z,Y9 t zs with
  | some (u,e),some es=>if u=t then some (e::es) else none
  | _,_=>none
theorem Ot {t:Ty}:∀ {zs:List SV} {vs:List V} {es:List E},Y9 t zs=some es→aA env zs vs→∃ l:List t.den,evs env es=some (l.map fun x=>(⟨t,x⟩:Val))∧eF V.toD vs=some (l.map (bD t))
 | [],vs,es,h,hl=>by
  cases h
  simp only [aA] at hl
  subst hl
  exact ⟨[],rfl,rfl⟩
 | z::zs,vs,es,h,hl=>by
  simp only [aA] at hl
  obtain ⟨v,vs',rfl,h2,h3⟩:=hl
  simp only [Y9] at h
  split at h
  ·rename_i u e es' h4 h5
   split at h
   ·rename_i hu
    subst hu
    cases h
    obtain ⟨a,e1,e2⟩:=qB h4 h2
    obtain ⟨l,e3,e4⟩:=Ot h5 h3
    exact ⟨a::l,by simp [evs,e1,e3],oI e2 e4⟩
   ·cases h
  ·cases h
theorem Ou {t:Ty} (l:List t.den):GL t (l.map fun x=>(⟨t,x⟩:Val))=some l:=by
 induction l with
 | nil=>rfl
 | cons x l ih=>simp [GL,ih]
def VW (P:Program) (nv:Nat) (t:TypeId) (len:Nat) (ids:List Nat) (zs:List SV):Option (List (B×Ty)×SV) :=
 match fP P t with
 | some e=>match tyD P e with
  | some w=>if w.size=tsz P e∧tsz P e≠0∧isCells (aY P e)=true∧len * tsz P e≤16777216∧ids=List.range len∧len≠0 then (Y9 w zs).map fun es=>([(.list w es,.sl w)],.e (.sl w) (.var nv)) else none
  | none=>none
 | none=>none
theorem Sj {t:TypeId} {len:Nat} {parts:Array (Nat×Operand)} {zs:List SV} {z:SV} {bs:List (B×Ty)} (hop:o.op = .buildSlice t len parts) (h:VW P y.g.length t len (parts.toList.map (·.1)) zs=some (bs,z)) (hI:Inst env y s)
  (hl:aA env zs (parts.toList.map fun x=>s.get x.2)) (hb:iU CS bs env (Nx o s k z)):aP P S p o s k:=by
 unfold VW at h
 split at h
 ·rename_i e he
  split at h
  ·rename_i w hw
   split at h
   ·rename_i hc
    obtain ⟨es,h1,h2⟩:=Option.map_eq_some_iff.1 h
    cases h2
    obtain ⟨l,e1,e2⟩:=Ot h1 hl
    obtain ⟨c,r1,r2,r3⟩:=bV hI.len hb
    obtain ⟨vs,l',x1,x2,x3,x4⟩:=r1
    rw [e1] at x1;cases x1
    rw [Ou] at x2;cases x2
    cases x4
    simp only [aP,hop,he,e2]
    refine ⟨hc.2.1,hc.2.2.1,hc.2.2.2.1,hc.2.2.2.2.1,fun d hd=>?_,?_⟩
    ·obtain ⟨q,_,rfl⟩:=List.mem_map.1 hd
     rw [aF,ak];exact hc.1
    ·rw [if_neg hc.2.2.2.2.2]
     exact r2 _ (by simp only [ah];exact ⟨_,r3,rfl⟩)
   ·cases h
  ·cases h
 ·cases h
def resD:(t:Ty)→t.den→List D
 | .unit,_=>[]
 | .prod a b,x=>bD a x.1::resD b x.2
 | t,x=>[bD t x]
def G8:Ty→Bool
 | .unit=>false
 | _=>true
def Ov:Ty→Bool
 | .unit=>true
 | .prod a b=>decide (a.ag≠none)&&G8 b&&Ov b
 | t=>decide (t.ag≠none)
def Yb:Ty→E→List SV
 | .unit,_=>[]
 | .prod a b,x=>.e a (.p1 .fst x)::Yb b (.p1 .snd x)
 | t,x=>[.e t x]
def Zt (t:Ty) (x:E):SV:=match t with
 | .unit=>.tup []
 | .prod a b=>.tup (Yb (.prod a b) x)
 | t=>.e t x
theorem VX:∀ (t:Ty) (x:E) (a:t.den),x.val env=some ⟨t,a⟩→aA env (Yb t x) ((resD t a).map V.d):=by
 intro t
 induction t with
 | prod a b iha ihb =>
  intro x c hx
  simp only [Yb,resD,List.map_cons,aA]
  refine ⟨_,_,rfl,?_,ihb _ _ (by simp [E.val,app1,hx,jV])⟩
  simp only [ah]
  exact ⟨_,by simp only [E.val,app1,hx,jV,Option.map_some],rfl⟩
 | unit=>intro x c hx;simp [Yb,resD,aA]
 | int q=>intro x c hx;exact ⟨_,_,rfl,⟨c,hx,rfl⟩,rfl⟩
 | bool=>intro x c hx;exact ⟨_,_,rfl,⟨c,hx,rfl⟩,rfl⟩
 | str=>intro x c hx;exact ⟨_,_,rfl,⟨c,hx,rfl⟩,rfl⟩
 | cst q=>intro x c hx;exact ⟨_,_,rfl,⟨c,hx,rfl⟩,rfl⟩
 | st q _=>intro x c hx;exact ⟨_,_,rfl,⟨c,hx,rfl⟩,rfl⟩
 | arr n q _=>intro x c hx;exact ⟨_,_,rfl,⟨c,hx,rfl⟩,rfl⟩
 | sl q _=>intro x c hx;exact ⟨_,_,rfl,⟨c,hx,rfl⟩,rfl⟩
 | mp q u _=>intro x c hx;exact ⟨_,_,rfl,⟨c,hx,rfl⟩,rfl⟩
theorem Sl {b:Ty} {x:b.den} (h:G8 b=true):resD b x≠[]:=by
 cases b with
 | unit=>cases h
 | prod c d=>exact List.cons_ne_nil _ _
 | int q=>exact List.cons_ne_nil _ _
 | bool=>exact List.cons_ne_nil _ _
 | str=>exact List.cons_ne_nil _ _
 | cst q=>exact List.cons_ne_nil _ _
 | st q=>exact List.cons_ne_nil _ _
 | arr n q=>exact List.cons_ne_nil _ _
 | sl q=>exact List.cons_ne_nil _ _
 | mp q u=>exact List.cons_ne_nil _ _
theorem G9 {t:Ty} {x:E} {a:t.den} (ht:Ov t=true) (hx:x.val env=some ⟨t,a⟩):ah env (Zt t x) (je ((resD t a).map V.d)):=by
 have hl:=VX t x a hx
 cases t with
 | prod b c =>
  have ht' : (decide (b.ag≠none)&&G8 c&&Ov c)=true:=ht
  rw [Bool.and_eq_true,Bool.and_eq_true] at ht'
  have hp:=Sl (x:=a.2) ht'.1.2
  have e:je ((resD (.prod b c) a).map V.d) = .tup ((resD (.prod b c) a).map V.d):=by
   unfold je
   split
   ·rename_i v hv
    exfalso
    have hv' : V.d (bD b a.1)::(resD c a.2).map V.d=[v]:=hv
    rw [List.cons.injEq,List.map_eq_nil_iff] at hv'
    exact hp hv'.2
   ·rfl
  rw [e]
  exact ⟨_,rfl,hl⟩
 | unit=>exact ⟨[],rfl,rfl⟩
 | int q=>exact ⟨a,hx,rfl⟩
 | bool=>exact ⟨a,hx,rfl⟩
 | str=>exact ⟨a,hx,rfl⟩
 | cst q=>exact ⟨a,hx,rfl⟩
 | st q=>exact ⟨a,hx,rfl⟩
 | arr n q=>exact ⟨a,hx,rfl⟩
 | sl q=>exact ⟨a,hx,rfl⟩
 | mp q u=>exact ⟨a,hx,rfl⟩
def VY (P:Program) (f:FuncId) (vs:List Val) (v:Val):Prop:=∃ (w:Ty) (xs:List w.den) (us:List Val) (rty:Ty) (ys:List w.den) (r:rty.den),vs=⟨.sl w,xs⟩::us∧v=⟨.prod (.sl w) rty,(ys,r)⟩∧Nq P f w.size (xs.map (bD w)) (us.map Val.d) (ys.map (bD w)) (resD rty r)
def dJ (P:Program):Calls':=fun g vs v=>(if Nat.blt g 1000000=true then kQ P g (vs.map Val.d) (resD v.1 v.2) else VY P (g - 1000000) vs v)∧v.wf
theorem Ox (g:Nat) : ¬ Nat.blt (g+1000000) 1000000=true:=by rw [Nat.blt_eq];omega
theorem Oy (g:Nat):g+1000000 - 1000000=g:=Nat.add_sub_cancel g 1000000
theorem Oz {g n:Nat} {vs:List Val} {v:Val} (hn:n=g+1000000) (h:dJ P n vs v):VY P g vs v:=by
 obtain ⟨h,_⟩:=h
 have h1 : ¬ Nat.blt n 1000000=true:=by rw [hn];exact Ox g
 rw [if_neg h1] at h
 have h2:n - 1000000=g:=by rw [hn];exact Oy g
 rw [h2] at h;exact h
theorem Sm {g n:Nat} {vs:List Val} {v:Val} (hn:n=g+1000000) (h:VY P g vs v) (hw:v.wf):dJ P n vs v:=by
 have h1 : ¬ Nat.blt n 1000000=true:=by rw [hn];exact Ox g
 have h2:n - 1000000=g:=by rw [hn];exact Oy g
 refine ⟨?_,hw⟩
 rw [if_neg h1,h2];exact h
theorem dw:oD (dJ P):=fun _ _ _ h=>h.2
def He:List Ty→List SV→Option (List E)
 | [],[]=>some []
 | t::ts,z::zs=>match asE (some t) z,He ts zs with
  | some (u,e),some es=>if u=t then some (e::es) else none
  | _,_=>none
 | _,_=>none
theorem vV:∀ {ts:List Ty} {zs:List SV} {vs:List V} {es:List E},He ts zs=some es→aA env zs vs→∃ us:List Val,evs env es=some us∧us.map (·.1)=ts∧eF V.toD vs=some (us.map Val.d)
 | [],[],vs,es,h,hl=>by
  cases h
  simp only [aA] at hl
  subst hl
  exact ⟨[],rfl,rfl,rfl⟩
 | t::ts,z::zs,vs,es,h,hl=>by
  simp only [aA] at hl
  obtain ⟨v,vs',rfl,h2,h3⟩:=hl
  simp only [He] at h
  split at h
  ·rename_i u e es' h4 h5
   split at h
   ·rename_i hu
    subst hu
    cases h
    obtain ⟨a,e1,e2⟩:=qB h4 h2
    obtain ⟨us,e3,e4,e5⟩:=vV h5 h3
    exact ⟨⟨u,a⟩::us,by simp [evs,e1,e3],by simp [e4],oI e2 e5⟩
   ·cases h
  ·cases h
 | [],_::_,vs,es,h,hl=>by simp [He] at h
 | _::_,[],vs,es,h,hl=>by simp [He] at h
abbrev Tab:=Nat→Option (List Ty×Ty)
def OA (tb:Tab) (nv:Nat) (g:Nat) (zs:List SV):Option (List (B×Ty)×SV) :=
 match tb g with
 | some (ts,r)=>match He ts zs with
  | some es=>if Ov r=true∧Nat.blt g 1000000=true then some ([(.call g es,r)],Zt r (.var nv)) else none
  | none=>none
 | none=>none
def Hf (P:Program) (S:tu):Prop:=∀ p g args s k ds rs,eF V.toD args=some ds→kQ P g ds rs→k (je (rs.map .d)) s→S.call p g args s k
theorem uw:Hf P (lN P):=fun p g args s k ds rs h1 h2 h3=>pJ (p:=p) h2 h1 h3
theorem xJ:Hf P (BG P):=fun p g args s k ds rs h1 h2 h3=>Ky h2 h1 h3
theorem Sr {c:Call} {f:Operand} {g:Nat} {tb:Tab} {zs:List SV} {z:SV} {bs:List (B×Ty)} (hS:Hf P S) (hop:o.op = .call c) (hc:c.callee = .value f) (hf:s.get f = .d (.v (.func (.func g) #[] #[]))) (hcal:callable P g=true) (h:OA tb y.g.length g zs=some (bs,z))
  (hI:Inst env y s) (hl:aA env zs (c.args.toList.map s.get)) (hd:∀ d,o.dst=some d→d<s.n) (hb:iU (dJ P) bs env (Nx o s k z)):aP P S p o s k:=by
 unfold OA at h
 split at h
 ·rename_i ts r hr
  split at h
  ·rename_i es hes
   split at h
   ·rename_i hro
    cases h
    obtain ⟨us,e1,e2,e3⟩:=vV hes hl
    obtain ⟨a,r1,r2,r3⟩:=bV hI.len hb
    obtain ⟨vs,x1,x2⟩:=r1
    rw [e1] at x1;cases x1
    simp only [aP,hop,hc,hf]
    have x2:=x2.1
    rw [if_pos hro.2] at x2
    exact ⟨hcal,hS _ _ _ _ _ _ _ e3 x2 ⟨hd,r2 _ (G9 hro.1 r3)⟩⟩
   ·cases h
  ·cases h
 ·cases h
end
end Go.Tx
namespace Go.Tx
open Go Go.Ab
theorem sK {CS:Calls'}:∀ {bs:List (B×Ty)} {env:List Val} {Q:List Val→Prop},iU CS bs env Q→iU CS bs env (fun e=>(∃ l,e=env++l∧l.map (·.1)=bs.map (·.2))∧Q e)
 | [],env,Q,h=>⟨⟨[],by simp,rfl⟩,h⟩
 | b::bs,env,Q,h=>by
  obtain ⟨v,h0,h1,h2⟩:=h
  refine ⟨v,h0,h1,bI ?_ (sK h2)⟩
  rintro e ⟨⟨l,e1,e2⟩,hq⟩
  exact ⟨⟨v::l,by simp [e1],by simp [h0,e2]⟩,hq⟩
def OB (g:Operand→Option SV):Option Operand→Option (Option SV)
 | none=>some none
 | some o=>(g o).map some
def Jc (g:Operand→Option SV):List (Nat×Operand)→Option (List (Nat×SV))
 | []=>some []
 | (i,o)::l=>match g o,Jc g l with
  | some x,some xs=>some ((i,x)::xs)
  | _,_=>none
def Yc:SV→Option SV
 | .ptr n o=>some (.ptr n o)
 | .ref t x o=>some (.ref t x o)
 | .aptr n o m t i inn=>some (.aptr n o m t i inn)
 | _=>none
def fnc? : SV→Option Nat
 | .e (.cst (.fnc g)) _=>some g
 | _=>none
abbrev Bs:=List (B×Ty)
def sN (x:Option SV):Option (Bs×SV):=x.map fun z=>([],z)
def lookA (P:Program) (bx:List (Name×SV)) (t:TypeId) (ok:Bool) (m i:SV):Option SV :=
 match m with
 | .mref n=>match aj n bx with
  | some (.mpc k u x)=>match Ba P t,MC P t,asI i with
   | some kd,some et,some (q,a)=>if xG u (aY P et)=true then VU k kd u x q a ok else none
   | _,_,_=>none
  | _=>none
 | _=>none
def Uu (P:Program) (tb:Tab) (nv:Nat) (g:Operand→Option SV) (c:Call):Option (Bs×SV) :=
 match c.callee with
 | .builtin .len=>match c.args.toList,c.argTypes.toList with
  | [x],t::_=>match g x with
   | some a=>sN (Zr P t a)
   | none=>none
  | _,_=>none
 | .builtin .max=>match c.args.toList with
  | [x,z]=>match g x,g z with
   | some a,some b=>sN (mmS true a b)
   | _,_=>none
  | _=>none
 | .builtin .min=>match c.args.toList with
  | [x,z]=>match g x,g z with
   | some a,some b=>sN (mmS false a b)
   | _,_=>none
  | _=>none
 | .value f=>match g f with
  | some z=>match fnc? z with
   | some gid=>if callable P gid=true then (match getAll g c.args.toList with
    | some zs=>OA tb nv gid zs
    | none=>none) else none
   | none=>none
  | none=>none
 | _=>none
def Sv (P:Program) (tb:Tab) (y:Sy) (g:Operand→Option SV) (op:Op):Option (Bs×SV) :=
 match op with
 | .move x=>sN (g x)
 | .pick c a b=>match g c,g a,g b with
  | some c,some a,some b=>sN (VG c a b)
  | _,_,_=>none
 | .load t a=>match zy P t,g a with
  | some ag,some v=>if ag=true∨tsz P t≠0 then VI y.g.length y.bx ag (tyD P t) (tsz P t) v else none
  | _,_=>none
 | .fieldAddr t x i=>match qW P t i,g x with
  | some (off,ft),some v=>if tsz P ft≠0 then sN (Zm off v) else none
  | _,_=>none
 | .field t x i=>match qW P t i,g x with
  | some (off,ft),some v=>match zy P ft with
   | some ag=>if (ag=true∨tsz P ft≠0)∧RQ v=true then sN (BQ ag (tyD P ft) off (tsz P ft) v) else none
   | none=>none
  | _,_=>none
 | .indexAddr t x ix=>match g x,g ix with
  | some a,some i=>match fP P t with
   | some e=>Zn y.g.length (tyD P t) (tsz P e) a i
   | none=>match QI P t with
    | some (m,e)=>if 2≤m∧tsz P e≠0 then VL y.g.length m (tsz P e) a i (tyD P e) else none
    | none=>none
  | _,_=>none
 | .index t x ix=>match g x,g ix with
  | some a,some i=>match QI P t with
   | some (m,e)=>match zy P e with
    | some ag=>Ob y.g.length m ag (tsz P e) a i
    | none=>none
   | none=>match P.underlying t with
    | some .string=>Zo y.g.length a i
    | _=>none
  | _,_=>none
 | .slice t x lo hi none=>match fP P t,g x,OB g lo,OB g hi with
  | some e,some a,some l,some h=>Zp y.g.length (tyD P t) (tsz P e) a l h
  | _,_,_,_=>none
 | .binOp op t x z _=>match g x,g z with
  | some a,some .nil=>if (fP P t).isSome=true then Zq op a else none
  | some a,some b=>match X8 (tyD P t) a,X8 (tyD P t) b with
   | some (tx,ex),some (tz,ez)=>Zl P op t y.g.length tx ex tz ez
   | _,_=>none
  | _,_=>none
 | .unOp op _ x=>match g x with
  | some a=>sN (unS op a)
  | none=>none
 | .convert src t x=>match g x,P.underlying t with
  | some a,some (.int kd)=>if (P.underlying src).isSome=true then sN (VQ kd a) else none
  | _,_=>none
 | .build t parts=>if uM P t=true then (match Jc g parts.toList with
  | some ps=>match Oi P t ps with
   | some z=>some ([],z)
   | none=>sN (Oo P t ps)
  | none=>none) else none
 | .buildSlice t len parts=>match getAll g (parts.toList.map (·.2)) with
  | some zs=>VW P y.g.length t len (parts.toList.map (·.1)) zs
  | none=>none
 | .makeFunc (.func f) first cap=>if first = #[] then (getAll g cap.toList).map fun zs=>([],.fn f zs) else none
 | .extract x i=>match g x with
  | some (.tup vs)=>sN (vs[i]?)
  | _=>none
 | .nilCheck x=>match g x with
  | some a=>sN (Yc a)
  | none=>none
 | .lookup t x ix ok=>match g x,g ix with
  | some m,some i=>sN (lookA P y.bx t ok m i)
  | _,_=>none
 | .call c=>Uu P tb y.g.length g c
 | _=>none
theorem gq {x:Option SV} {bs:Bs} {z:SV} (h:sN x=some (bs,z)):x=some z∧bs=[]:=by
 obtain ⟨z',h1,h2⟩:=Option.map_eq_some_iff.1 h
 cases h2;exact ⟨h1,rfl⟩
section
variable {P:Program} {S:tu} {env:List Val} {y:Sy} {s:Sa} {p:Name} {o:Oper} {k:Sa→Prop} {tb:Tab}
theorem xK {g:Operand→Option SV} (hg:∀ o x,g o=some x→ah env x (s.get o)):∀ {l:List (Nat×Operand)} {ps:List (Nat×SV)},Jc g l=some ps→aG env ps (l.map fun x=>(x.1,s.get x.2))
 | [],ps,h=>by cases h;simp [aG]
 | (i,o)::l,ps,h=>by
  simp only [Jc] at h
  split at h
  ·rename_i x xs h1 h2
   cases h
   simp only [List.map_cons,aG]
   exact ⟨_,_,rfl,hg _ _ h1,xK hg h2⟩
  ·cases h
theorem EL {g:Operand→Option SV} (hg:∀ o x,g o=some x→ah env x (s.get o)) {l:Option Operand} {c:Option SV} (h:OB g l=some c):RX env s l c:=by
 cases l with
 | none=>cases h;trivial
 | some l =>
  obtain ⟨x,h1,rfl⟩:=Option.map_eq_some_iff.1 h
  exact hg _ _ h1
theorem Yd {z:SV} {v:V} {g:Nat} (h:fnc? z=some g) (hv:ah env z v):v = .d (.v (.func (.func g) #[] #[])):=by
 unfold fnc? at h
 split at h
 ·cases h;simp only [ah] at hv;obtain ⟨a,_,rfl⟩:=hv;rfl
 ·cases h
theorem Jd (hS:Hf P S) {g:Operand→Option SV} (hg:∀ o x,g o=some x→ah env x (s.get o)) (hI:Inst env y s) (hw:dh env) (hd:∀ d,o.dst=some d→d<s.n) {bs:Bs} {z:SV} (h:Sv P tb y g o.op=some (bs,z))
  (hb:iU (dJ P) bs env (Nx o s k z)):aP P S p o s k:=by
 cases hop:o.op <;> simp only [Sv,hop,reduceCtorEq] at h
 case move x =>
  obtain ⟨h1,rfl⟩:=gq h
  simp only [aP,hop]
  exact hb _ (hg _ _ h1)
 case pick c a b =>
  split at h
  ·rename_i c' a' b' h1 h2 h3
   obtain ⟨h4,rfl⟩:=gq h
   obtain ⟨r,e1,e2,e3⟩:=RN h4 (hg _ _ h1) (hg _ _ h2) (hg _ _ h3)
   simp only [aP,hop,e1]
   exact ⟨fun e=>hb _ (e2 e),fun e=>hb _ (e3 e)⟩
  ·cases h
 case load t a =>
  split at h
  ·rename_i ag v h1 h2
   split at h
   ·rename_i hc
    exact RP hop h1 (fun e=>by rcases hc with hc | hc <;> first | exact hc | (rw [e] at hc;cases hc)) h hI (hg _ _ h2) hb
   ·cases h
  ·cases h
 case fieldAddr t x i =>
  split at h
  ·rename_i off ft v h1 h2
   split at h
   ·rename_i hc
    obtain ⟨h3,rfl⟩:=gq h
    exact VJ hop h1 hc h3 (hg _ _ h2) hb
   ·cases h
  ·cases h
 case field t x i =>
  split at h
  ·rename_i off ft v h1 h2
   split at h
   ·rename_i ag hag
    split at h
    ·rename_i hc
     obtain ⟨h3,rfl⟩:=gq h
     exact RU hop h1 hag (fun e=>by rcases hc.1 with hc | hc <;> first | exact hc | (rw [e] at hc;cases hc)) hc.2 h3 (hg _ _ h2) hb
    ·cases h
   ·cases h
  ·cases h
 case indexAddr t x ix =>
  split at h
  ·rename_i a i h1 h2
   split at h
   ·rename_i e he
    exact VK hop he h hI (hg _ _ h1) (hg _ _ h2) hb
   ·rename_i he
    split at h
    ·rename_i m e ht
     split at h
     ·rename_i hc
      exact RV hop he ht hc.1 hc.2 h hI (hg _ _ h1) (hg _ _ h2) hb
     ·cases h
    ·cases h
  ·cases h
 case index t x ix =>
  split at h
  ·rename_i a i h1 h2
   split at h
   ·rename_i m e ht
    split at h
    ·rename_i ag hag
     exact Oc hop ht hag h hI (hg _ _ h1) (hg _ _ h2) hb
    ·cases h
   ·rename_i ht
    split at h
    ·rename_i hu
     exact VN hop ht hu h hI (hg _ _ h1) (hg _ _ h2) hb
    ·cases h
  ·cases h
 case slice t x lo hi mx =>
  cases mx with
  | some m=>cases h
  | none =>
   simp only at h
   split at h
   ·rename_i e a l hh h1 h2 h3 h4
    exact VO hop h1 h hI (hg _ _ h2) (EL hg h3) (EL hg h4) hb
   ·cases h
 case binOp op t x z' yt =>
  split at h
  ·rename_i a h1 h2
   split at h
   ·rename_i hc
    obtain ⟨e,he⟩:=Option.isSome_iff_exists.1 hc
    have:=hg _ _ h2
    simp only [ah] at this
    exact VR hop he this h (hg _ _ h1) hb
   ·cases h
  ·rename_i a b _ h1 h2
   split at h
   ·rename_i tx ex tz ez h3 h4
    obtain ⟨a1,e1,e2⟩:=GY h3 (hg _ _ h1)
    obtain ⟨b1,e3,e4⟩:=GY h4 (hg _ _ h2)
    exact VH h hI.len e1 e3 ⟨x,z',yt,hop,e2,e4⟩ hb
   ·cases h
  ·cases h
 case unOp op t x =>
  split at h
  ·rename_i a h1
   obtain ⟨h3,rfl⟩:=gq h
   exact Ya hop h3 (hg _ _ h1) hb
  ·cases h
 case convert src t x =>
  split at h
  ·rename_i a kd h1 h2
   split at h
   ·rename_i hc
    obtain ⟨h3,rfl⟩:=gq h
    exact RY hop h2 hc hw h3 (hg _ _ h1) hb
   ·cases h
  ·cases h
 case build t parts =>
  split at h
  ·rename_i ht
   split at h
   ·rename_i ps hps
    split at h
    ·rename_i z' hz
     cases h
     exact Oj hop ht hz (xK hg hps) hb
    ·obtain ⟨h3,rfl⟩:=gq h
     exact Oq hop ht h3 (xK hg hps) hb
   ·cases h
  ·cases h
 case buildSlice t len parts =>
  split at h
  ·rename_i zs hzs
   refine Sj hop h hI ?_ hb
   have:=l9 hg hzs
   rw [List.map_map] at this
   exact this
  ·cases h
 case makeFunc f first cap =>
  cases f with
  | func f =>
   simp only at h
   split at h
   ·rename_i hf
    subst hf
    obtain ⟨zs,h1,h2⟩:=Option.map_eq_some_iff.1 h
    cases h2
    exact G6 hop (l9 hg h1) hb
   ·cases h
  | _=>cases h
 case extract x i =>
  split at h
  ·rename_i vs h1
   obtain ⟨h3,rfl⟩:=gq h
   exact KR hop h3 (hg _ _ h1) hb
  ·cases h
 case nilCheck x =>
  split at h
  ·rename_i a h1
   obtain ⟨h3,rfl⟩:=gq h
   have:=hg _ _ h1
   simp only [aP,hop]
   unfold Yc at h3
   split at h3
   ·cases h3;have h2:=this;simp only [ah] at this;simp only [this];exact hb _ (by simp only [ah])
   ·cases h3;have h2:=this;simp only [ah] at this;obtain ⟨a,cs,e1,e2,e3⟩:=this;rw [e2];exact hb _ (by rw [← e2];exact h2)
   ·cases h3;have h2:=this;simp only [ah] at this;obtain ⟨kk,j,e1,e2,e3,e4⟩:=this;rw [e4];exact hb _ (by rw [← e4];exact h2)
   ·cases h3
  ·cases h
 case lookup t x ix ok =>
  split at h
  ·rename_i m i h1 h2
   obtain ⟨h3,rfl⟩:=gq h
   unfold lookA at h3
   split at h3
   ·rename_i n
    split at h3
    ·rename_i k' u xx hl
     split at h3
     ·rename_i kd et q a h4 h5 h6
      split at h3
      ·rename_i hz
       have hm:=hg _ _ h1
       simp only [ah] at hm
       obtain ⟨c,e1,e2⟩:=(hI.bx.look (n:=n)).1 hl
       obtain ⟨ii,e3,e4⟩:=nK h6 (hg _ _ h2)
       exact RZ hop h4 h5 hz hm e1 e2 (by simp only [ah];exact ⟨ii,e3,e4⟩) h3 hb
      ·cases h3
     ·cases h3
    ·cases h3
   ·cases h3
  ·cases h
 case call c =>
  unfold Uu at h
  split at h
  ·rename_i hcal
   split at h
   ·rename_i x t ts hx ht
    split at h
    ·rename_i a h1
     obtain ⟨h3,rfl⟩:=gq h
     exact VT hop hcal hx ht h3 (hg _ _ h1) hb
    ·cases h
   ·cases h
  ·rename_i hcal
   split at h
   ·rename_i x z' hx
    split at h
    ·rename_i a b h1 h2
     obtain ⟨h3,rfl⟩:=gq h
     exact Ut (gt:=true) hop hcal hx h3 (hg _ _ h1) (hg _ _ h2) hb
    ·cases h
   ·cases h
  ·rename_i hcal
   split at h
   ·rename_i x z' hx
    split at h
    ·rename_i a b h1 h2
     obtain ⟨h3,rfl⟩:=gq h
     exact Ut (gt:=false) hop hcal hx h3 (hg _ _ h1) (hg _ _ h2) hb
    ·cases h
   ·cases h
  ·rename_i f hcal
   split at h
   ·rename_i zf hzf
    split at h
    ·rename_i gid hgid
     split at h
     ·rename_i hcb
      split at h
      ·rename_i zs hzs
       exact Sr hS hop hcal (Yd hgid (hg _ _ hzf)) hcb h hI (l9 hg hzs) hd hb
      ·cases h
     ·cases h
    ·cases h
   ·cases h
  ·cases h
end
end Go.Tx
namespace Go.Tx
open Go Go.Ab
def etD (P:Program) (t:TypeId):Option Ty:=match fP P t with | some e=>tyD P e | none=>none
def L9 (w:Option Ty):SV→SV
 | .kd cs=>match asE w (.kd cs) with | some (t,x)=>.e t x | none=>.kd cs
 | x=>x
theorem uy {env:List Val} {w:Option Ty} {z:SV} {v:V} (h:ah env z v):ah env (L9 w z) v:=by
 cases z <;> try exact h
 case kd cs =>
  simp only [L9]
  split
  ·rename_i t x he
   obtain ⟨a,h1,h2⟩:=qB he h
   simp only [ah] at h;subst h
   simp only [V.toD,V.lu,Option.some.injEq] at h2
   simp only [ah]
   exact ⟨a,h1,by rw [h2]⟩
  ·exact h
def Je (P:Program) (t:TypeId):Option SV:=match aY P t with
 | .nil=>some .nil
 | _=>(zeroOf P t).map fun w=>.e w (.zero w)
theorem xM {P:Program} {env:List Val} {t:TypeId} {z:SV} (h:Je P t=some z):ah env z (aY P t):=by
 unfold Je at h
 split at h
 ·rename_i e;cases h;rw [e];simp only [ah]
 ·obtain ⟨w,h1,h2⟩:=Option.map_eq_some_iff.1 h
  subst h2
  rw [(xH h1).1]
  simp only [ah]
  exact ⟨_,rfl,rfl⟩
def isNone' {α:Type}:Option α→Bool
 | none=>true
 | some _=>false
def newS (y:Sy) (d:Nat) (p:Name) (dst:Option Tmp) (sz:Option Nat) (et:Option Ty) (z:SV):Option (Bs×Sy) :=
 match y.claim (1000000::d::p) sz et z with
 | some (z',y')=>if y.refs (d::p)=false∧isNone' (aj (d::p) y.bx)=true then some ([],({ y' with bx:=(d::p,z')::y'.bx }:Sy).put dst (.ptr (d::p) 0)) else none
 | none=>none
theorem xO {α:Type} {x:Option α} (h:isNone' x=true):x=none:=by cases x <;> simp_all [isNone']
section
variable {P:Program} {S:tu} {CS:Calls'} {env:List Val} {y:Sy} {s:Sa} {p:Name} {o:Oper} {k:Sa→Prop} {tb:Tab}
theorem OC {d:Nat} {sz:Option Nat} {et:Option Ty} {z:SV} {v:V} {bs:Bs} {y' : Sy} (h:newS y d p o.dst sz et z=some (bs,y')) (hI:Inst env y s) (hv:ah env z v) (hb:iU CS bs env fun e=>∀ s',Inst e y' s' → k s') :
  s.refs (d::p)=false∧aj (d::p) s.bx=none∧k ({ (s.claim (1000000::d::p) sz v).2 with bx:=(d::p,(s.claim (1000000::d::p) sz v).1)::(s.claim (1000000::d::p) sz v).2.bx }.put o.dst (.ptr (d::p) 0)):=by
 unfold newS at h
 split at h
 ·rename_i z' y1 hc
  split at h
  ·rename_i hh
   cases h
   obtain ⟨h1,h2⟩:=hI.claim hv hc
   refine ⟨hI.refs hh.1,(hI.bx.look (n:=d::p)).2 (xO hh.2),hb _ ?_⟩
   have h3:Inst env { y1 with bx:=(d::p,z')::y1.bx } { (s.claim (1000000::d::p) sz v).2 with bx:=(d::p,(s.claim (1000000::d::p) sz v).1)::(s.claim (1000000::d::p) sz v).2.bx } :=
    ⟨h2.g,h2.rd,h2.n,h2.ts,h2.sv,⟨_,_,rfl,h1,h2.bx⟩,h2.lp,h2.ow,h2.vc⟩
   exact h3.put o.dst rfl
  ·cases h
 ·cases h
def EM (P:Program) (y:Sy) (dst:Option Tmp) (t:TypeId) (n:Name) (off:Nat) (v:SV):Option (Bs×Sy) :=
 match aj n y.bx with
 | some _=>match y.claim ((1000000+off)::n) (esz P t) (etD P t) v with
  | some (v',y')=>match aj n y'.bx with
   | some c=>match I7 off v' c with
    | some c'=>if xw v' = some (tsz P t)∧(xw v).isSome=true∧tsz P t≠0 then some ([],({ y' with bx:=cZ n c' y'.bx }:Sy).put dst .dead) else none
    | none=>none
   | none=>none
  | none=>none
 | none=>none
theorem OD {t:TypeId} {a x:Operand} {n:Name} {off:Nat} {v:SV} {bs:Bs} {y' : Sy} (hop:o.op = .store t a x) (ha:s.get a = .ptr n off) (hv:ah env v (s.get x)) (h:EM P y o.dst t n off v=some (bs,y')) (hI:Inst env y s)
  (hb:iU CS bs env fun e=>∀ s',Inst e y' s' → k s'):aP P S p o s k:=by
 unfold EM at h
 split at h
 ·rename_i c0 hc0
  split at h
  ·rename_i v' y1 hcl
   split at h
   ·rename_i c hc
    split at h
    ·rename_i c' hc'
     split at h
     ·rename_i hh
      cases h
      obtain ⟨h1,h2⟩:=hI.claim hv hcl
      obtain ⟨b0,e0,_⟩:=(hI.bx.look (n:=n)).1 hc0
      obtain ⟨b,e1,e2⟩:=(h2.bx.look (n:=n)).1 hc
      obtain ⟨r1,r2,r3⟩:=EG hc' h1 e2
      obtain ⟨nn,hn⟩:=Option.isSome_iff_exists.1 hh.2.1
      simp only [aP,hop,ha,e0,e1]
      obtain ⟨q1,q2⟩:=jo hh.1 h1
      refine ⟨(jo hn hv).2,hh.2.2,q1,by omega,hb _ ?_⟩
      have h3:Inst env { y1 with bx:=cZ n c' y1.bx } { (s.claim ((1000000+off)::n) (esz P t) (s.get x)).2 with bx:=cZ n (bf off (s.claim ((1000000+off)::n) (esz P t) (s.get x)).1 b) (s.claim ((1000000+off)::n) (esz P t) (s.get x)).2.bx } :=
       ⟨h2.g,h2.rd,h2.n,h2.ts,h2.sv,h2.bx.cZ r1,h2.lp,h2.ow,h2.vc⟩
      exact h3.put o.dst rfl
     ·cases h
    ·cases h
   ·cases h
  ·cases h
 ·cases h
def EN (P:Program) (y:Sy) (dst:Option Tmp) (t:TypeId) (n:Name) (off m:Nat) (u:Ty) (i:E) (inn:Nat) (v:SV):Option (Bs×Sy) :=
 match v with
 | .e w e=>match aj n y.bx with
  | some (.e b x)=>match X9 off m u b x with
   | some z =>
    let nv:=y.g.length
    if w.size=tsz P t∧tsz P t≠0∧b.ag=some true∧b.size≠1 then
     (if inn=0∧w=u then
      (if off=0∧b = .arr m u then some ([(.r3 .aset z i e,.arr m u)],({ (y.more [.arr m u]) with bx:=cZ n (.e (.arr m u) (.var nv)) y.bx }:Sy).put dst .dead)
       else match ty2 (.upd off) b (.arr m u) with
       | some b'=>some ([(.r3 .aset z i e,.arr m u)],({ (y.more [.arr m u]) with bx:=cZ n (.e b' (.p2 (.upd off) x (.var nv))) y.bx }:Sy).put dst .dead)
       | none=>none)
     else match ty2 (.upd inn) u w with
      | some u'=>if u' = u then (match (if off=0∧b = .arr m u then some (b,E.var (nv+1)) else (ty2 (.upd off) b (.arr m u)).map fun b'=>(b',.p2 (.upd off) x (.var (nv+1)))) with
       | some (b',q)=>some ([(.r2 .TG z i,u),(.r3 .aset z i (.p2 (.upd inn) (.var nv) e),.arr m u)],({ (y.more [u,.arr m u]) with bx:=cZ n (.e b' q) y.bx }:Sy).put dst .dead)
       | none=>none) else none
      | none=>none)
    else none
   | none=>none
  | _=>none
 | _=>none
theorem VZ {i:Name} {sz:Option Nat} {d:D}:s.claim i sz (.d d)=(.d d,s):=rfl
theorem Cb {m:Nat} {u b b' w:Ty} {f:Fin m→u.den} {c:b.den} {j:Nat} (hj:j<m) {off inn:Nat} {e:w.den} {x' : u.den} {q:b'.den}
  (h1:enc (.arr m u) f=((enc b c).drop off).take (m * u.size)) (hb:off+m * u.size≤b.size) (hi:inn+w.size≤u.size) (hx:enc u x' = over (enc u (f ⟨j,hj⟩)) (enc w e) inn)
  (hq:enc b' q=over (enc b c) (enc (.arr m u) fun i=>if i=⟨j,hj⟩ then x' else f i) off) :
  enc b' q=over (enc b c) (enc w e) (off+j * u.size+inn):=by
 have hle:j * u.size+u.size≤m * u.size:=by
  have:=Nat.mul_le_mul_right u.size (show j+1≤m from hj)
  rw [Nat.add_mul,Nat.one_mul] at this;exact this
 have hl:(enc (.arr m u) f).length=m * u.size:=ak _ _
 rw [hq,NQ,hx]
 have hpart:=sF f hj (o:=0) (m:=u.size) (by omega)
 simp only [Nat.add_zero,List.drop_zero] at hpart
 rw [xg (a:=enc (.arr m u) f) (b:=enc u (f ⟨j,hj⟩)) (c:=enc w e) (o:=j * u.size) (p:=inn) (by rw [ak,ak];exact hi) (by rw [ak,ak];exact hle) (by rw [ak,hpart,List.take_of_length_le (by rw [ak];exact Nat.le_refl _)])]
 rw [xg (a:=enc b c) (b:=enc (.arr m u) f) (c:=enc w e) (o:=off) (p:=j * u.size+inn) (by rw [ak,hl];omega) (by rw [hl,ak];exact hb) (by rw [hl,h1]),Nat.add_assoc]
theorem EO {d:D} {ds:List D} {off:Nat} (h:off+d.cells.length≤ds.length) (ha:off=0∧d.cells.length=ds.length→d = .agg ds∨∃ cs,d = .agg cs):bf off (.d d) (.d (.agg ds)) = .d (.agg (over ds d.cells off)):=by
 rw [xA]
 split
 ·rename_i hc
  rw [iL,List.length_map] at hc
  have hl:d.cells.length=ds.length:=by simpa [V.cells] using hc.2
  have hcs:∃ cs,d = .agg cs:=by
   rcases ha ⟨hc.1,hl⟩ with h | h
   ·exact ⟨ds,h⟩
   ·exact h
  obtain ⟨cs,rfl⟩:=hcs
  rw [hc.1,jl (by rw [hl])]
  rfl
 ·rfl
theorem Sz {t:Ty} (h:t.size≠1) (x:t.den):bD t x = .agg (enc t x):=by
 unfold bD jD
 split
 ·rename_i ha;exact absurd (iK ha) h
 ·rfl
theorem uz {t:TypeId} {a x:Operand} {n:Name} {off:Nat} {w b b' : Ty} {e:w.den} {c:b.den} {q:b'.den} (hop:o.op = .store t a x) (ha:s.get a = .ptr n off) (hx:s.get x = .d (bD w e)) (hn:aj n s.bx=some (.d (bD b c)))
  (h1:w.size=tsz P t) (h2:tsz P t≠0) (h3:b.ag=some true) (h4:b.size≠1) (h5:b'.ag=some true) (hle:off+w.size≤b.size) (hq:enc b' q=over (enc b c) (enc w e) off)
  (hk:k ({ s with bx:=cZ n (.d (bD b' q)) s.bx }.put o.dst .dead)):aP P S p o s k:=by
 have hb:bf off (.d (bD w e)) (.d (bD b c)) = .d (bD b' q):=by
  rw [dA h3,dA h5,EO (by rw [aF,ak,ak];exact hle),aF,hq]
  rintro ⟨_,hl⟩
  rw [aF,ak,ak] at hl
  exact .inr ⟨_,Sz (by omega) e⟩
 simp only [aP,hop,ha,hn,hx,VZ]
 refine ⟨rfl,h2,by rw [iL,List.length_map,aF,ak];exact h1,?_,?_⟩
 ·rw [iL,List.length_map,aF,ak,← h1];exact hle
 ·rw [hb];exact hk
theorem OE {t:TypeId} {a x:Operand} {n:Name} {off m:Nat} {u:Ty} {i:E} {inn:Nat} {v:SV} {bs:Bs} {y' : Sy} (hop:o.op = .store t a x) (ha:ah env (.aptr n off m u i inn) (s.get a)) (hv:ah env v (s.get x)) (h:EN P y o.dst t n off m u i inn v=some (bs,y')) (hI:Inst env y s)
  (hb:iU CS bs env fun e=>∀ s',Inst e y' s' → k s'):aP P S p o s k:=by
 unfold EN at h
 split at h
 ·rename_i w e
  simp only [ah] at hv ha
  obtain ⟨ev,hev,hx⟩:=hv
  obtain ⟨kk,j,hi,hj0,hjm,hap⟩:=ha
  split at h
  ·rename_i b xx hbx
   obtain ⟨c',g1,g2⟩:=(hI.bx.look (n:=n)).1 hbx
   simp only [ah] at g2
   obtain ⟨c,hc,rfl⟩:=g2
   split at h
   ·rename_i z hz
    obtain ⟨f,f1,f2,f3,f4⟩:=GZ hz hc
    simp only at h
    split at h
    ·rename_i hcond
     obtain ⟨c1,c2,c3,c4⟩:=hcond
     have hle:j.toNat * u.size+u.size≤m * u.size:=by
      have:=Nat.mul_le_mul_right u.size (show j.toNat+1≤m from hjm)
      rw [Nat.add_mul,Nat.one_mul] at this;exact this
     split at h
     ·rename_i hw
      obtain ⟨hinn,hwu⟩:=hw
      subst hinn;subst hwu
      split at h
      ·rename_i hwhole
       obtain ⟨hoff,hbarr⟩:=hwhole
       subst hoff;subst hbarr
       cases h
       obtain ⟨g,r1,r2,r3⟩:=bV hI.len hb
       obtain ⟨a',b',d',r,cc,x1,x2,x3,x4,x5,x6⟩:=r1
       rw [f1] at x1;cases x1
       rw [hi] at x2;cases x2
       rw [hev] at x3;cases x3
       simp only [KO,dif_pos,Option.some.injEq] at x4
       subst x4
       simp only at x5
       rw [dif_pos ⟨hj0,hjm⟩] at x5
       cases x5;cases x6
       have hfc:enc (.arr m w) f=enc (.arr m w) c:=by rw [f3,List.drop_zero,List.take_of_length_le (by rw [ak];exact Nat.le_refl _)]
       refine uz (b':=.arr m w) (c:=c) (q:=fun i=>if i=⟨j.toNat,hjm⟩ then ev else f i) hop hap hx g1 c1 c2 c3 c4 rfl (by simp only [Ty.size];omega) ?_ (r2 _ ?_)
       ·refine Cb (off:=0) (inn:=0) (c:=c) hjm f3 f2 (by omega) (x':=ev) ?_ ?_
        ·rw [jl (by rw [ak,ak])]
        ·rw [jl (by rw [ak,ak])]
       ·have h3:=hI.snoc (⟨.arr m w,fun i=>if i=⟨j.toNat,hjm⟩ then ev else f i⟩:Val)
        have h4:Inst (env++[⟨.arr m w,fun i=>if i=⟨j.toNat,hjm⟩ then ev else f i⟩]) { (y.more [.arr m w]) with bx:=cZ n (.e (.arr m w) (.var y.g.length)) y.bx } { s with bx:=cZ n (.d (bD (.arr m w) fun i=>if i=⟨j.toNat,hjm⟩ then ev else f i)) s.bx } :=
         ⟨h3.g,h3.rd,h3.n,h3.ts,h3.sv,h3.bx.cZ (by simp only [ah];exact ⟨_,r3,rfl⟩),h3.lp,h3.ow,h3.vc⟩
        exact h4.put o.dst rfl
      ·split at h
       ·rename_i b1 hb1
        cases h
        obtain ⟨g,r1,r2,r3⟩:=bV hI.len hb
        obtain ⟨a',b',d',r,cc,x1,x2,x3,x4,x5,x6⟩:=r1
        rw [f1] at x1;cases x1
        rw [hi] at x2;cases x2
        rw [hev] at x3;cases x3
        simp only [KO,dif_pos,Option.some.injEq] at x4
        subst x4
        simp only at x5
        rw [dif_pos ⟨hj0,hjm⟩] at x5
        cases x5;cases x6
        obtain ⟨F,u1,u2⟩:=GK hb1 (E.dB _ hc) r3
        obtain ⟨p1,p2,p3,p4⟩:=jJ _ _ _ _ _ (show uS b (.arr m w) off=some ⟨b1,F⟩ from u1)
        refine uz (b':=b1) (c:=c) (q:=F c fun i=>if i=⟨j.toNat,hjm⟩ then ev else f i) hop hap hx g1 c1 c2 c3 c4 (by rw [p3,c3]) (by simp only [Ty.size] at p1;omega) ?_ (r2 _ ?_)
        ·exact Cb (off:=off) (inn:=0) (c:=c) hjm f3 f2 (by omega) (x':=ev) (by rw [jl (by rw [ak,ak])]) (p4 _ _)
        ·have h3:=hI.snoc (⟨.arr m w,fun i=>if i=⟨j.toNat,hjm⟩ then ev else f i⟩:Val)
         have h4:Inst (env++[⟨.arr m w,fun i=>if i=⟨j.toNat,hjm⟩ then ev else f i⟩]) { (y.more [.arr m w]) with bx:=cZ n (.e b1 (.p2 (.upd off) xx (.var y.g.length))) y.bx } { s with bx:=cZ n (.d (bD b1 (F c fun i=>if i=⟨j.toNat,hjm⟩ then ev else f i))) s.bx } :=
          ⟨h3.g,h3.rd,h3.n,h3.ts,h3.sv,h3.bx.cZ (by simp only [ah];exact ⟨_,u2,rfl⟩),h3.lp,h3.ow,h3.vc⟩
         exact h4.put o.dst rfl
       ·cases h
     ·split at h
      ·rename_i u' hu'
       split at h
       ·rename_i huu
        subst huu
        split at h
        ·rename_i b1 q1 hb1
         cases h
         simp only [iU] at hb
         obtain ⟨v1,v2,⟨a1,b2,r',cc,x1,x2,x3,x4,x5⟩,v3,v4,⟨a2,b3,d2,r2,cc2,z1,z2,z3,z4,z5,z6⟩,hk⟩:=hb
         rw [f1] at x1;cases x1
         rw [hi] at x2;cases x2
         simp only [zX,Option.some.injEq] at x3
         subst x3
         simp only at x4
         rw [dif_pos ⟨hj0,hjm⟩] at x4
         cases x4;subst x5
         rw [E.dB _ f1] at z1;cases z1
         rw [E.dB _ hi] at z2;cases z2
         have hel:(E.var y.g.length).val (env++[⟨u',f ⟨j.toNat,hjm⟩⟩])=some ⟨u',f ⟨j.toNat,hjm⟩⟩:=pX hI.len
         obtain ⟨F,u1,u2⟩:=GK hu' hel (E.dB _ hev)
         rw [u2] at z3;cases z3
         simp only [KO,dif_pos,Option.some.injEq] at z4
         subst z4
         simp only at z5
         rw [dif_pos ⟨hj0,hjm⟩] at z5
         cases z5;subst z6
         obtain ⟨p1,p2,p3,p4⟩:=jJ _ _ _ _ _ (show uS u' w inn=some ⟨u',F⟩ from u1)
         have hl2:(env++[(⟨u',f ⟨j.toNat,hjm⟩⟩:Val)]).length=y.g.length+1:=by rw [List.length_append,hI.len];rfl
         have hlast:=pX (v:=(⟨.arr m u',fun (i:Fin m)=>if i=⟨j.toNat,hjm⟩ then F (f ⟨j.toNat,hjm⟩) ev else f i⟩:Val)) hl2
         have hc2:=E.dB [(⟨.arr m u',fun (i:Fin m)=>if i=⟨j.toNat,hjm⟩ then F (f ⟨j.toNat,hjm⟩) ev else f i⟩:Val)] (E.dB [(⟨u',f ⟨j.toNat,hjm⟩⟩:Val)] hc)
         have fin:∀ (q:b1.den),q1.val (env++[(⟨u',f ⟨j.toNat,hjm⟩⟩:Val)]++[(⟨.arr m u',fun (i:Fin m)=>if i=⟨j.toNat,hjm⟩ then F (f ⟨j.toNat,hjm⟩) ev else f i⟩:Val)])=some ⟨b1,q⟩→b1.ag=some true →
           enc b1 q=over (enc b c) (enc (.arr m u') fun i=>if i=⟨j.toNat,hjm⟩ then F (f ⟨j.toNat,hjm⟩) ev else f i) off→aP P S p o s k:=by
          intro q e1 e2 e3
          refine uz (b':=b1) (c:=c) (q:=q) hop hap hx g1 c1 c2 c3 c4 e2 (by omega) (Cb (off:=off) (inn:=inn) (c:=c) hjm f3 f2 p1 (p4 _ _) e3) (hk _ ?_)
          have h3:=(hI.snoc (⟨u',f ⟨j.toNat,hjm⟩⟩:Val)).snoc (⟨.arr m u',fun (i:Fin m)=>if i=⟨j.toNat,hjm⟩ then F (f ⟨j.toNat,hjm⟩) ev else f i⟩:Val)
          have h4:Inst (env++[(⟨u',f ⟨j.toNat,hjm⟩⟩:Val)]++[(⟨.arr m u',fun (i:Fin m)=>if i=⟨j.toNat,hjm⟩ then F (f ⟨j.toNat,hjm⟩) ev else f i⟩:Val)]) { (y.more [u',.arr m u']) with bx:=cZ n (.e b1 q1) y.bx } { s with bx:=cZ n (.d (bD b1 q)) s.bx } :=
           ⟨by have:=h3.g;simp only [Sy.more,List.append_assoc] at this ⊢; exact this,h3.rd,h3.n,h3.ts,h3.sv,h3.bx.cZ (by simp only [ah];exact ⟨_,e1,rfl⟩),h3.lp,h3.ow,h3.vc⟩
          exact h4.put o.dst rfl
         split at hb1
         ·rename_i hwhole
          obtain ⟨hoff,hbarr⟩:=hwhole
          subst hoff;subst hbarr
          cases hb1
          exact fin _ hlast rfl (by rw [jl (by rw [ak,ak])])
         ·obtain ⟨b1',hb1',he⟩:=Option.map_eq_some_iff.1 hb1
          cases he
          obtain ⟨G,t1,t2⟩:=GK hb1' hc2 hlast
          obtain ⟨s1,s2,s3,s4⟩:=jJ _ _ _ _ _ (show uS b (.arr m u') off=some ⟨b1,G⟩ from t1)
          exact fin _ t2 (by rw [s3,c3]) (s4 _ _)
        ·cases h
       ·cases h
      ·cases h
    ·cases h
   ·cases h
  ·cases h
 ·cases h
end
end Go.Tx
namespace Go.Tx
open Go Go.Ab
def OG:Ty→Bool
 | .int _ | .bool | .str | .cst _=>true
 | _=>false
def xP (P:Program) (p:Name) (y:Sy) (dst:Option Tmp) (t u:TypeId) (a b:SV):Option (Bs×Sy) :=
 match fP P t with
 | some e=>match asS (tyD P u) b with
  | some (w,ye)=>if fP P u=some e∧tsz P e≠0∧isCells (aY P e)=true∧(aY P e).cells.length=tsz P e∧w.size=tsz P e∧dW P e≠0 then
    (match a with
    | .own i sz w' xe=>if y.ow.contains i=true∧sz=tsz P e∧w=w' then
      some ([(.r2 (.app (dW P e)) xe ye,.sl w)],({ ((y.strip i).more [.sl w]) with ow:=i::(y.strip i).ow }:Sy).put dst (.own i sz w (.var y.g.length))) else none
    | .nil=>some ([(.r2 (.app (dW P e)) (.zero (.sl w)) ye,.sl w)],({ ((y.strip (dst.getD 0::p)).more [.sl w]) with ow:=(dst.getD 0::p)::(y.strip (dst.getD 0::p)).ow }:Sy).put dst (.own (dst.getD 0::p) (tsz P e) w (.var y.g.length)))
    | _=>none) else none
  | none=>none
 | none=>none
def stOp (P:Program) (p:Name) (y:Sy) (o:Oper):Option (Bs×Sy) :=
 let d:=o.dst.getD 0
 match o.op with
 | .assign x=>match y.get x with
  | some v=>match y.claim (d::p) (esz P o.type) (etD P o.type) v with
   | some (v',y')=>some ([],y'.put o.dst v')
   | none=>none
  | none=>none
 | .alloc t=>match Je P t with
  | some z=>if xw z=some (tsz P t) then newS y d p o.dst (esz P t) (etD P t) z else none
  | none=>none
 | .box t x=>match y.get x with
  | some v=>if (xw (L9 (tyD P t) v)).isSome=true then newS y d p o.dst (esz P t) (etD P t) (L9 (tyD P t) v) else none
  | none=>none
 | .store t a x=>match y.get a,y.get x with
  | some (.ptr n off),some v=>EM P y o.dst t n off (L9 (tyD P t) v)
  | some (.aptr n off m u i inn),some v=>EN P y o.dst t n off m u i inn (L9 (tyD P t) v)
  | _,_=>none
 | .buildSlice t 0 parts=>match fP P t with
  | some e=>if tsz P e≠0∧isCells (aY P e)=true∧parts = #[] then (match y.claim (d::p) (some (tsz P e)) (tyD P e) .nil with
   | some (v',y')=>some ([],y'.put o.dst v')
   | none=>none) else none
  | none=>none
 | .makeMap t none=>match Ba P t,MC P t with
  | some kd,some et=>match tyD P et with
   | some w=>if y.refs (d::p)=false∧isNone' (aj (d::p) y.bx)=true then some ([],({ y with bx:=(d::p,.mpc kd w (.zero (.mp kd w)))::y.bx }:Sy).put o.dst (.mref (d::p))) else none
   | none=>none
  | _,_=>none
 | .mapUpdate t m ky x=>match Ba P t,y.get m,y.get ky,y.get x with
  | some kd,some (.mref n),some (.e (.int kd2) a),some (.e w c)=>match aj n y.bx with
   | some (.mpc kd' u l)=>if kd' = kd∧kd2=kd∧w=u∧OG w=true then
     some ([],({ y with bx:=cZ n (.mpc kd u (.p2 .mput l (.p2 .pair a c))) y.bx }:Sy).put o.dst .dead) else none
   | _=>none
  | _,_,_,_=>none
 | .call c=>match c.callee with
  | .builtin .append=>match c.args.toList,c.argTypes.toList with
   | [x,z],t::u::_=>match y.get x,y.get z with
    | some a,some b=>xP P p y o.dst t u a b
    | _,_=>none
   | _,_=>none
  | _=>none
 | _=>none
section
variable {P:Program} {S:tu} {CS:Calls'} {env:List Val} {y:Sy} {s:Sa} {p:Name} {o:Oper} {k:Sa→Prop} {tb:Tab}
theorem Jf {t:Ty} (a:Int) {x:t.den} {c:Value} (hc:Un t x=some c):∀ {l:List (Int×t.den)} {kvs:List (Int×Value)},l.map (fun y=>(y.1,Un t y.2))=kvs.map (fun y=>(y.1,some y.2)) →
  (jW l a x).map (fun y=>(y.1,Un t y.2))=(nR a c kvs).map (fun y=>(y.1,some y.2))
 | [],[],_=>by simp [jW,nR,hc]
 | [],_::_,h=>by simp at h
 | _::_,[],h=>by simp at h
 | (b,z)::l,(b',d)::kvs,h=>by
  simp only [List.map_cons,List.cons.injEq,Prod.mk.injEq] at h
  obtain ⟨⟨h1,h2⟩,h3⟩:=h
  subst h1
  simp only [jW,nR]
  split
  ·simp only [List.map_cons,hc,h3]
  ·simp only [List.map_cons,h2,Jf a hc h3]
theorem OH {w:Ty} (h:OG w=true) (x:w.den):∃ c,Un w x=some c:=by
 cases w <;> simp [OG] at h <;> exact ⟨_,rfl⟩
theorem KU {c:Call} {x z:Operand} {t u:TypeId} {ts:List TypeId} {a b:SV} {bs:Bs} {y' : Sy} (hop:o.op = .call c) (hc:c.callee = .builtin .append) (hx:c.args.toList=[x,z]) (ht:c.argTypes.toList=t::u::ts)
  (ha:ah env a (s.get x)) (hz:ah env b (s.get z)) (h:xP P p y o.dst t u a b=some (bs,y')) (hI:Inst env y s) (hb:iU CS bs env fun e=>∀ s',Inst e y' s' → k s'):aP P S p o s k:=by
 unfold xP at h
 split at h
 ·rename_i e he
  split at h
  ·rename_i w ye hy
   obtain ⟨ys,e1,e2⟩:=sJ hy hz
   split at h
   ·rename_i hcond
    obtain ⟨c1,c2,c3,c4,c5,c6⟩:=hcond
    have hall:∀ d∈ys.map (bD w),d.cells.length=tsz P e:=fun d hd=>by
     obtain ⟨q,_,rfl⟩:=List.mem_map.1 hd
     rw [aF,ak];exact c5
    split at h
    ·rename_i i sz w' xe
     split at h
     ·rename_i hh
      obtain ⟨h1,h2,h3⟩:=hh
      subst h3
      cases h
      simp only [ah] at ha
      obtain ⟨xs,g1,g2,g3⟩:=ha
      obtain ⟨r,r1,r2,r3⟩:=bV hI.len hb
      obtain ⟨a',b',rr,cc,x1,x2,x3,x4,x5⟩:=r1
      rw [g1] at x1;cases x1
      rw [e1] at x2;cases x2
      simp only [zX,dif_pos,if_pos c6,Option.some.injEq] at x3
      subst x3
      simp only at x4
      split at x4
      ·rename_i hle
       cases x4;cases x5
       simp only [aP,hop,hc,hx,ht,List.map_cons,List.map_nil,he,e2,g3]
       have hlen:xs.length+ys.length≤9223372036854775807:=by
        have:=Nat.le_mul_of_pos_right (xs.length+ys.length) (Nat.pos_of_ne_zero c6)
        omega
       refine ⟨c1,c2,c3,c4,hall,by rw [hI.ow];exact List.contains_iff_mem.1 h1,h2,by rw [List.length_map,List.length_map];exact hle,by rw [List.length_map,List.length_map];exact hlen,r2 _ ?_⟩
       have h4:=(hI.strip i).snoc (⟨.sl w,xs++ys⟩:Val)
       have h5:Inst (env++[⟨.sl w,xs++ys⟩]) { ((y.strip i).more [.sl w]) with ow:=i::(y.strip i).ow } { s.strip i with ow:=i::(s.strip i).ow } :=
        ⟨h4.g,h4.rd,h4.n,h4.ts,h4.sv,h4.bx,h4.lp,by have:=h4.ow;simp only [Sy.more] at this;simp only [this],h4.vc⟩
       refine h5.put o.dst ?_
       simp only [ah]
       exact ⟨xs++ys,r3,g2,by rw [List.map_append]⟩
      ·cases x4
     ·cases h
    ·cases h
     simp only [ah] at ha
     obtain ⟨r,r1,r2,r3⟩:=bV hI.len hb
     obtain ⟨a',b',rr,cc,x1,x2,x3,x4,x5⟩:=r1
     cases x1
     rw [e1] at x2;cases x2
     simp only [zX,dif_pos,if_pos c6,Option.some.injEq] at x3
     subst x3
     simp only at x4
     split at x4
     ·rename_i hle
      cases x4;cases x5
      simp only [Ty.zero,List.length_nil,Nat.zero_add] at hle
      simp only [aP,hop,hc,hx,ht,List.map_cons,List.map_nil,he,e2,ha]
      have hlen:ys.length≤9223372036854775807:=by
       have:=Nat.le_mul_of_pos_right ys.length (Nat.pos_of_ne_zero c6)
       omega
      refine ⟨c1,c2,c3,c4,hall,by rw [List.length_map];exact hle,by rw [List.length_map];exact hlen,r2 _ ?_⟩
      have h4:=(hI.strip (o.dst.getD 0::p)).snoc (⟨.sl w,(Ty.sl w).zero++ys⟩:Val)
      have h5:Inst (env++[⟨.sl w,(Ty.sl w).zero++ys⟩]) { ((y.strip (o.dst.getD 0::p)).more [.sl w]) with ow:=(o.dst.getD 0::p)::(y.strip (o.dst.getD 0::p)).ow } { s.strip (o.dst.getD 0::p) with ow:=(o.dst.getD 0::p)::(s.strip (o.dst.getD 0::p)).ow } :=
       ⟨h4.g,h4.rd,h4.n,h4.ts,h4.sv,h4.bx,h4.lp,by have:=h4.ow;simp only [Sy.more] at this;simp only [this],h4.vc⟩
      refine h5.put o.dst ?_
      simp only [ah]
      exact ⟨_,r3,c5,rfl⟩
     ·cases x4
    ·cases h
   ·cases h
  ·cases h
 ·cases h
theorem V3 (hI:Inst env y s) {bs:Bs} {y' : Sy} (h:stOp P p y o=some (bs,y')) (hb:iU CS bs env fun e=>∀ s',Inst e y' s' → k s'):aP P S p o s k:=by
 unfold stOp at h
 simp only at h
 split at h
 ·rename_i x hop
  split at h
  ·rename_i v hv
   split at h
   ·rename_i v' y1 hc
    cases h
    obtain ⟨h1,h2⟩:=hI.claim (hI.get hv) hc
    simp only [aP,hop]
    exact hb _ (h2.put o.dst h1)
   ·cases h
  ·cases h
 ·rename_i t hop
  split at h
  ·rename_i z hz
   split at h
   ·rename_i hs
    have hv:=xM (env:=env) hz
    obtain ⟨h1,h2,h3⟩:=OC h hI hv hb
    obtain ⟨q1,q2⟩:=jo hs hv
    simp only [aP,hop]
    exact ⟨q1,q2,h1,h2,h3⟩
   ·cases h
  ·cases h
 ·rename_i t x hop
  split at h
  ·rename_i v hv
   split at h
   ·rename_i hs
    have hv':=uy (w:=tyD P t) (hI.get hv)
    obtain ⟨n,hn⟩:=Option.isSome_iff_exists.1 hs
    obtain ⟨h1,h2,h3⟩:=OC h hI hv' hb
    simp only [aP,hop]
    exact ⟨(jo hn hv').2,h1,h2,h3⟩
   ·cases h
  ·cases h
 ·rename_i t a x hop
  split at h
  ·rename_i n off v h1 h2
   have ha:=hI.get h1
   simp only [ah] at ha
   exact OD hop ha (uy (hI.get h2)) h hI hb
  ·rename_i n off m u i inn v h1 h2
   exact OE hop (hI.get h1) (uy (hI.get h2)) h hI hb
  ·cases h
 ·rename_i t parts hop
  split at h
  ·rename_i e he
   split at h
   ·rename_i hh
    split at h
    ·rename_i v' y1 hc
     cases h
     obtain ⟨h1,h2⟩:=hI.claim (show ah env .nil .nil from rfl) hc
     obtain ⟨c1,c2,c3⟩:=hh
     subst c3
     simp only [aP,hop,he]
     refine ⟨c1,c2,by omega,rfl,?_⟩
     simp only [List.map_nil,eF,List.not_mem_nil,false_implies,implies_true,true_and,if_true]
     exact hb _ (h2.put o.dst h1)
    ·cases h
   ·cases h
  ·cases h
 ·rename_i t hop
  split at h
  ·rename_i kd et hk he
   split at h
   ·rename_i w hw
    split at h
    ·rename_i hh
     cases h
     simp only [aP,hop,hk]
     refine ⟨hI.refs hh.1,(hI.bx.look).2 (xO hh.2),hb _ ?_⟩
     have h3:Inst env { y with bx:=(o.dst.getD 0::p,.mpc kd w (.zero (.mp kd w)))::y.bx } { s with bx:=(o.dst.getD 0::p,.mpc kd [])::s.bx } :=
      ⟨hI.g,hI.rd,hI.n,hI.ts,hI.sv,⟨_,_,rfl,by simp only [ah];exact ⟨[],[],rfl,rfl,rfl⟩,hI.bx⟩,hI.lp,hI.ow,hI.vc⟩
     exact h3.put o.dst rfl
    ·cases h
   ·cases h
  ·cases h
 ·rename_i t m ky x hop
  split at h
  ·rename_i kd n kd2 a w c hk h1 h2 h3
   split at h
   ·rename_i kd' u l hl
    split at h
    ·rename_i hh
     obtain ⟨rfl,rfl,rfl,c4⟩:=hh
     cases h
     have i1:=hI.get h1
     have i2:=hI.get h2
     have i3:=hI.get h3
     simp only [ah] at i1 i2 i3
     obtain ⟨av,e2,e3⟩:=i2
     obtain ⟨cv,e4,e5⟩:=i3
     obtain ⟨b,g1,g2⟩:=(hI.bx.look (n:=n)).1 hl
     simp only [ah] at g2
     obtain ⟨lv,kvs,e6,rfl,e7⟩:=g2
     obtain ⟨cc,hcc⟩:=OH c4 cv
     have hcd:=I5 hcc
     simp only [aP,hop,hk,i1,g1,e3,e5,iM,hcd]
     refine ⟨trivial,trivial,hb _ ?_⟩
     have h3:Inst env { y with bx:=cZ n (.mpc kd2 w (.p2 .mput l (.p2 .pair a c))) y.bx } { s with bx:=cZ n (.mpc kd2 (nR av cc kvs)) s.bx } :=
      ⟨hI.g,hI.rd,hI.n,hI.ts,hI.sv,hI.bx.cZ (by
       simp only [ah]
       refine ⟨jW lv av cv,_,?_,rfl,Jf av hcc e7⟩
       simp [E.val,IZ,e6,e2,e4,l7]),hI.lp,hI.ow,hI.vc⟩
     exact h3.put o.dst rfl
    ·cases h
   ·cases h
  ·cases h
 ·rename_i c hop
  split at h
  ·rename_i hc
   split at h
   ·rename_i x z t u ts hx ht
    split at h
    ·rename_i a b h1 h2
     exact KU hop hc hx ht (hI.get h1) (hI.get h2) h hI hb
    ·cases h
   ·cases h
  ·cases h
 ·cases h
end
end Go.Tx
namespace Go.Tx
open Go Go.Ab
theorem Cc {u:Ty}:∀ (a:List u.den),aZ (a.map (bD u))=a.flatMap (enc u)
 | []=>rfl
 | x::a=>by simp only [aZ,List.map_cons,List.flatMap_cons,aF];congr 1;exact Cc a
theorem xQ {u:Ty}:∀ (a:List u.den),(a.flatMap (enc u)).length=a.length * u.size
 | []=>by simp
 | x::a=>by rw [List.flatMap_cons,List.length_append,xQ a,ak,List.length_cons,Nat.succ_mul,Nat.add_comm]
theorem V4 {u:Ty} (a:List u.den) {j:Nat} (hj:j<a.length) (inn:Nat) (hi:inn≤u.size):((enc u a[j]).drop inn) <+: (aZ (a.map (bD u))).drop (j * u.size+inn):=by
 have e:a=a.take j++(a[j]::a.drop (j+1)):=by rw [List.getElem_cons_drop,List.take_append_drop]
 rw [Cc]
 have e2:a.flatMap (enc u)=(a.take j).flatMap (enc u)++(enc u a[j]++(a.drop (j+1)).flatMap (enc u)):=by
  conv=>lhs;rw [e]
  rw [List.flatMap_append,List.flatMap_cons]
 rw [e2]
 have hl:((a.take j).flatMap (enc u)).length=j * u.size:=by rw [xQ,List.length_take,Nat.min_eq_left (by omega)]
 have hd:((a.take j).flatMap (enc u)).drop (j * u.size+inn)=[]:=List.drop_eq_nil_of_le (by rw [hl];exact Nat.le_add_right _ _)
 rw [List.drop_append,hd,List.nil_append,hl,Nat.add_sub_cancel_left,List.drop_append_of_le_length (by rw [ak];exact hi)]
 exact List.prefix_append _ _
def aag (P:Program) (t:TypeId):Bool:=(fP P t).isSome
def SA (P:Program) (y:Sy) (g:Operand→Option SV) (op:Op):Option (Bs×SV) :=
 match op with
 | .nilCheck x=>match g x with
  | some (.vpt n u i inn)=>some ([],.vpt n u i inn)
  | _=>none
 | .fieldAddr t x i=>match qW P t i,g x with
  | some (off,ft),some (.vpt n u j inn)=>if tsz P ft≠0 then some ([],.vpt n u j (inn+off)) else none
  | _,_=>none
 | .indexAddr t x ix=>match fP P t,g x,(g ix).bind asI with
  | some e,some (.vsl n),some (q,i)=>match aj n y.vc with
   | some (u,l)=>if tsz P e≠0∧u.size=tsz P e then some ([(.r2 .idx l i,u)],.vpt n u i 0) else none
   | none=>none
  | _,_,_=>none
 | .load t x=>match zy P t,g x with
  | some ag,some (.vpt n u i inn)=>match aj n y.vc with
   | some (u',l)=>if u' = u∧(ag=false→tsz P t≠0)∧inn≤u.size then (match xu ag (tyD P t) inn (tsz P t) u (.var y.g.length) with
    | some (v,e)=>some ([(.r2 .idx l i,u)],.e v e)
    | none=>none) else none
   | none=>none
  | _,_=>none
 | _=>none
def OI (P:Program) (p:Name) (y:Sy) (o:Oper):Option (Bs×Sy) :=
 let nv:=y.g.length
 match SA P y y.get o.op with
 | some (bs,z)=>some (bs,(y.more (bs.map (·.2))).put o.dst z)
 | none=>match o.op with
 | .store t a x=>match y.get a,y.get x with
  | some (.vpt n u i inn),some v=>match aj n y.vc,asE (tyD P t) (L9 (tyD P t) v) with
   | some (u',l),some (w,e)=>if u' = u∧w.size=tsz P t∧tsz P t≠0∧inn+w.size≤u.size∧(xw (L9 (tyD P t) v)).isSome=true then
     (if w=u∧inn=0 then some ([(.r3 .lset l i e,.sl u)],({ y.more [.sl u] with vc:=cZ n (u,.var nv) y.vc }:Sy).put o.dst .dead)
     else if u.ag=some true∧(inn≠0∨w.size≠u.size)∧ty2 (.upd inn) u w=some u then some ([(.r2 .idx l i,u),(.r3 .lset l i (.p2 (.upd inn) (.var nv) e),.sl u)],({ y.more [u,.sl u] with vc:=cZ n (u,.var (nv+1)) y.vc }:Sy).put o.dst .dead)
     else none) else none
   | _,_=>none
  | _,_=>none
 | .call c=>match c.callee with
  | .builtin .len=>match c.args.toList,c.argTypes.toList with
   | [x],t::_=>match y.get x with
    | some (.vsl n)=>match aj n y.vc with
     | some (_,l)=>if aag P t=true then some ([],y.put o.dst (.e (.int .i64) (.p1 .len l))) else none
     | none=>none
    | _=>none
   | _,_=>none
  | .builtin .append=>match c.args.toList,c.argTypes.toList with
   | [x,z],t::u::_=>match y.get x,y.get z with
    | some (.vsl n),some b=>match aj n y.vc,fP P t,asS (tyD P u) b with
     | some (w',l),some e,some (w,ye)=>if fP P u=some e∧tsz P e≠0∧isCells (aY P e)=true∧(aY P e).cells.length=tsz P e∧w.size=tsz P e∧dW P e≠0∧w=w' then
       some ([(.r2 (.app (dW P e)) l ye,.sl w)],({ ((y.strip n).more [.sl w]) with ow:=n::(y.strip n).ow,vc:=(n,(w,.var nv))::(y.strip n).vc }:Sy).put o.dst (.vsl n)) else none
     | _,_,_=>none
    | _,_=>none
   | _,_=>none
  | _=>none
 | _=>none
section
variable {P:Program} {S:tu} {CS:Calls'} {env:List Val} {y:Sy} {s:Sa} {p:Name} {o:Oper} {k:Sa→Prop}
theorem EP {u:Ty} (a:List u.den) (j:Nat) (hj:j<a.length) (b:u.den) (hz:u.size≠0):zA u.size (j * u.size+0) (bD u b) (a.map (bD u))=(a.set j b).map (bD u):=by
 have h1:(j * u.size+0) / u.size=j:=by rw [Nat.add_zero,Nat.mul_div_cancel _ (Nat.pos_of_ne_zero hz)]
 have h2:(j * u.size+0) % u.size=0:=by rw [Nat.add_zero,Nat.mul_mod_left]
 unfold zA
 rw [h1,h2,List.getElem?_map,List.getElem?_eq_getElem hj]
 simp only [Option.map_some]
 rw [if_pos ⟨trivial,by rw [aF,aF,ak,ak]⟩,List.map_set]
theorem SB {u w:Ty} (a:List u.den) (j:Nat) (hj:j<a.length) {inn:Nat} (b:w.den) (c:u.den) (hag:u.ag=some true) (hin:inn+w.size≤u.size) (hne:inn≠0∨w.size≠u.size) (hw:w.size≠0) (hc:enc u c=over (enc u a[j]) (enc w b) inn) :
  zA u.size (j * u.size+inn) (bD w b) (a.map (bD u))=(a.set j c).map (bD u):=by
 have hz:0<u.size:=by omega
 have h1:(j * u.size+inn) / u.size=j:=by rw [Nat.mul_comm,Nat.mul_add_div hz,Nat.div_eq_of_lt (by omega),Nat.add_zero]
 have h2:(j * u.size+inn) % u.size=inn:=by rw [Nat.mul_comm,Nat.mul_add_mod,Nat.mod_eq_of_lt (by omega)]
 unfold zA
 rw [h1,h2,List.getElem?_map,List.getElem?_eq_getElem hj]
 simp only [Option.map_some]
 rw [if_neg (by rw [aF,aF,ak,ak];omega),List.map_set]
 congr 1
 rw [aF,aF,dA hag c,hc]
 rfl
theorem Jg {g:Operand→Option SV} {bs:Bs} {z:SV} (hg:∀ o x,g o=some x→ah env x (s.get o)) (hI:Inst env y s) (h:SA P y g o.op=some (bs,z)) (hb:iU CS bs env (Nx o s k z)):aP P S p o s k:=by
 unfold SA at h
 split at h
 ·rename_i x hop
  split at h
  ·rename_i n u i inn hx
   cases h
   have hv:=hg _ _ hx
   simp only [ah] at hv
   obtain ⟨q,j,h1,h2,h3⟩:=hv
   simp only [aP,hop,h3]
   exact hb _ (by simp only [ah];exact ⟨q,j,h1,h2,rfl⟩)
  ·cases h
 ·rename_i t x i hop
  split at h
  ·rename_i off ft n u e inn hf hx
   split at h
   ·rename_i hz
    cases h
    have hv:=hg _ _ hx
    simp only [ah] at hv
    obtain ⟨q,j,h1,h2,h3⟩:=hv
    simp only [aP,hop,hf,h3]
    exact ⟨hz,hb _ (by simp only [ah];exact ⟨q,j,h1,h2,by rw [Nat.add_assoc]⟩)⟩
   ·cases h
  ·cases h
 ·rename_i t x ix hop
  split at h
  ·rename_i e n q i he hx hix
   split at h
   ·rename_i u l hl
    split at h
    ·rename_i hc
     cases h
     have hv:=hg _ _ hx
     simp only [ah] at hv
     obtain ⟨z,hz1,hz2⟩:=Option.bind_eq_some_iff.1 hix
     obtain ⟨j,g1,g2⟩:=nK hz2 (hg _ _ hz1)
     obtain ⟨a,e1,e2⟩:=(hI.vc.look).1 hl
     obtain ⟨c,r1,r2,r3⟩:=bV hI.len hb
     obtain ⟨a',b',r,c',x1,x2,x3,x4,x5⟩:=r1
     rw [e1] at x1;cases x1
     rw [g1] at x2;cases x2
     simp only [zX,Option.some.injEq] at x3
     subst x3
     simp only at x4
     split at x4
     ·rename_i hn
      cases x5
      obtain ⟨hlt,hget⟩:=List.getElem?_eq_some_iff.1 x4
      simp only [aP,hop,g2,kG,he,hv,sliceOf,e2]
      refine ⟨hc.1,hc.2,hn,by rw [List.length_map];omega,r2 _ ?_⟩
      simp only [ah]
      exact ⟨q,j,E.dB _ g1,hn,by rw [Nat.add_zero,hc.2]⟩
     ·cases x4
    ·cases h
   ·cases h
  ·cases h
 ·rename_i t x hop
  split at h
  ·rename_i ag n u i inn hag hx
   split at h
   ·rename_i u' l hl
    split at h
    ·rename_i hc
     obtain ⟨rfl,hz,hin⟩:=hc
     split at h
     ·rename_i v e hle
      cases h
      have hv:=hg _ _ hx
      simp only [ah] at hv
      obtain ⟨q,j,g1,g2,g3⟩:=hv
      obtain ⟨a,e1,e2⟩:=(hI.vc.look).1 hl
      obtain ⟨c,r1,r2,r3⟩:=bV hI.len hb
      obtain ⟨a',b',r,c',x1,x2,x3,x4,x5⟩:=r1
      rw [e1] at x1;cases x1
      rw [g1] at x2;cases x2
      simp only [zX,Option.some.injEq] at x3
      subst x3
      simp only at x4
      rw [if_pos g2] at x4
      cases x5
      obtain ⟨hlt,hget⟩:=List.getElem?_eq_some_iff.1 x4
      subst hget
      have hp:=V4 a hlt inn hin
      obtain ⟨t1,t2⟩:=N8 hle r3 hp
      simp only [aP,hop,hag,g3,e2]
      exact ⟨hz,t2,r2 _ t1⟩
     ·cases h
    ·cases h
   ·cases h
  ·cases h
 ·cases h
theorem SC {bs:Bs} {y' : Sy} (hI:Inst env y s) (hw:dh env) (h:OI P p y o=some (bs,y')) (hb:iU CS bs env fun e=>∀ s',Inst e y' s' → k s'):aP P S p o s k:=by
 unfold OI at h
 simp only at h
 split at h
 ·rename_i bs z hl
  cases h
  refine Jg (fun o x hx=>hI.get hx) hI hl (bI ?_ (sK hb))
  rintro e ⟨⟨l,e1,e2⟩,hq⟩ v hv
  subst e1
  have h3:Inst (env++l) (y.more (bs.map (·.2))) s:=by rw [← e2];exact hI.app l
  exact hq _ (h3.put o.dst hv)
 rename_i hnl
 split at h
 ·rename_i t a x hop
  split at h
  ·rename_i n u i inn v ha hx
   split at h
   ·rename_i u' l w e hl has
    split at h
    ·rename_i hc
     obtain ⟨rfl,hws,htz,hin,hsz⟩:=hc
     have hv:=hI.get ha
     simp only [ah] at hv
     obtain ⟨q,j,g1,g2,g3⟩:=hv
     obtain ⟨al,e1,e2⟩:=(hI.vc.look).1 hl
     have hvv:=uy (w:=tyD P t) (hI.get hx)
     obtain ⟨b,f1,f2⟩:=qB has hvv
     obtain ⟨nn,hnn⟩:=Option.isSome_iff_exists.1 hsz
     have hcells:=(jo hnn hvv).2
     have hdl:(bD w b).cells.length=tsz P t:=by rw [aF,ak];exact hws
     have hu0:u'.size≠0:=by omega
     have common:∀ (hlt:j.toNat<al.length) (xs' : List D),zA u'.size (j.toNat * u'.size+inn) (bD w b) (al.map (bD u'))=xs' → k ({ s with vc:=Ab.cZ n (u'.size,xs') s.vc }.put o.dst .dead)→aP P S p o s k:=by
      intro hlt xs' hxs hk
      have d1:(j.toNat * u'.size+inn) / u'.size=j.toNat∨inn=u'.size:=by
       by_cases h:inn<u'.size
       ·left;rw [Nat.mul_comm,Nat.mul_add_div (by omega),Nat.div_eq_of_lt h,Nat.add_zero]
       ·right;omega
      have hin' : inn<u'.size:=by omega
      have d2:(j.toNat * u'.size+inn) / u'.size=j.toNat:=by
       rw [Nat.mul_comm,Nat.mul_add_div (by omega),Nat.div_eq_of_lt hin',Nat.add_zero]
      have d3:(j.toNat * u'.size+inn) % u'.size=inn:=by
       rw [Nat.mul_comm,Nat.mul_add_mod,Nat.mod_eq_of_lt hin']
      simp only [aP,hop,g3,e2,f2]
      refine ⟨htz,hcells,hdl,by rw [d3];omega,by rw [d2,List.length_map];exact hlt,?_⟩
      rw [hxs];exact hk
     split at h
     ·rename_i hwh
      obtain ⟨rfl,rfl⟩:=hwh
      cases h
      obtain ⟨c,r1,r2,r3⟩:=bV hI.len hb
      obtain ⟨a',b',d',r,c',x1,x2,x3,x4,x5,x6⟩:=r1
      rw [e1] at x1;cases x1
      rw [g1] at x2;cases x2
      rw [f1] at x3;cases x3
      simp only [KO,dif_pos,Option.some.injEq] at x4
      subst x4
      simp only at x5
      split at x5
      ·rename_i hlt
       cases x5;cases x6
       refine common hlt.2 _ (EP al j.toNat hlt.2 b hu0) (r2 _ ?_)
       have h4:=hI.snoc (⟨.sl w,al.set j.toNat b⟩:Val)
       have h5:Inst (env++[⟨.sl w,al.set j.toNat b⟩]) ({ y.more [.sl w] with vc:=Ab.cZ n (w,.var y.g.length) y.vc }:Sy) ({ s with vc:=Ab.cZ n (w.size,(al.set j.toNat b).map (bD w)) s.vc }:Sa) :=
        ⟨h4.g,h4.rd,h4.n,h4.ts,h4.sv,h4.bx,h4.lp,h4.ow,fC.set r3 h4.vc⟩
       exact h5.put o.dst rfl
      ·cases x5
     ·split at h
      ·rename_i hpt
       obtain ⟨hag,hne,hty⟩:=hpt
       cases h
       obtain ⟨v1,v2,v3,v4⟩:=hb
       obtain ⟨a',b',r,c',x1,x2,x3,x4,x5⟩:=v3
       rw [e1] at x1;cases x1
       rw [g1] at x2;cases x2
       simp only [zX,Option.some.injEq] at x3
       subst x3
       simp only at x4
       rw [if_pos g2] at x4
       cases x5
       obtain ⟨hlt,hget⟩:=List.getElem?_eq_some_iff.1 x4
       subst hget
       have hlen1:(env++[(⟨u',al[j.toNat]⟩:Val)]).length=y.g.length+1:=by rw [List.length_append,hI.len];rfl
       obtain ⟨c,r1,r2,r3⟩:=bV hlen1 v4
       obtain ⟨a',b',d',r,c',x1,x2,x3,x4',x5',x6⟩:=r1
       rw [E.dB _ e1] at x1;cases x1
       rw [E.dB _ g1] at x2;cases x2
       have hlast:(E.var y.g.length).val (env++[(⟨u',al[j.toNat]⟩:Val)])=some ⟨u',al[j.toNat]⟩:=pX hI.len
       obtain ⟨ff,p1,p2⟩:=GK (o:=.upd inn) hty hlast (E.dB [(⟨u',al[j.toNat]⟩:Val)] f1)
       rw [p2] at x3;cases x3
       simp only [KO,dif_pos,Option.some.injEq] at x4'
       subst x4'
       simp only at x5'
       split at x5'
       ·cases x5'; cases x6
        have hup:uS u' w inn=some ⟨u',ff⟩:=p1
        obtain ⟨_,_,_,q4⟩:=jJ _ _ _ _ _ hup
        refine common hlt _ (SB al j.toNat hlt b (ff al[j.toNat] b) hag hin hne (by omega) (q4 _ _)) (r2 _ ?_)
        have h4:=(hI.snoc (⟨u',al[j.toNat]⟩:Val)).snoc (⟨.sl u',al.set j.toNat (ff al[j.toNat] b)⟩:Val)
        have h5:Inst (env++[(⟨u',al[j.toNat]⟩:Val)]++[⟨.sl u',al.set j.toNat (ff al[j.toNat] b)⟩]) ({ y.more [u',.sl u'] with vc:=Ab.cZ n (u',.var (y.g.length+1)) y.vc }:Sy) ({ s with vc:=Ab.cZ n (u'.size,(al.set j.toNat (ff al[j.toNat] b)).map (bD u')) s.vc }:Sa) :=
         ⟨by have:=h4.g;simpa [Sy.more] using this,h4.rd,h4.n,h4.ts,h4.sv,h4.bx,h4.lp,h4.ow,fC.set r3 h4.vc⟩
        exact h5.put o.dst rfl
       ·cases x5'
      ·cases h
    ·cases h
   ·cases h
  ·cases h
 ·rename_i c hop
  split at h
  ·rename_i hcl
   split at h
   ·rename_i x t ts hx ht
    split at h
    ·rename_i n hn
     split at h
     ·rename_i u l hl
      split at h
      ·rename_i ht2
       cases h
       have hv:=hI.get hn
       simp only [ah] at hv
       obtain ⟨a,e1,e2⟩:=(hI.vc.look).1 hl
       obtain ⟨e,he⟩:=Option.isSome_iff_exists.1 ht2
       have hu:=dH he
       simp only [aP,hop,hcl,hx,ht,List.map_cons,List.map_nil,hv,sliceOf,he,hu,e2]
       refine hb _ (hI.put o.dst ?_)
       simp only [ah]
       refine ⟨(a.length:Int),?_,by rw [List.length_map];rfl⟩
       simp [E.val,app1,e1,jV]
      ·cases h
     ·cases h
    ·cases h
   ·cases h
  ·rename_i hcl
   split at h
   ·rename_i x z t u ts hx ht
    split at h
    ·rename_i n b hn hz
     split at h
     ·rename_i w' l e w ye hl he has
      split at h
      ·rename_i hc
       obtain ⟨c1,c2,c3,c4,c5,c6,rfl⟩:=hc
       cases h
       have hv:=hI.get hn
       simp only [ah] at hv
       obtain ⟨a,e1,e2⟩:=(hI.vc.look).1 hl
       obtain ⟨ys,f1,f2⟩:=sJ has (hI.get hz)
       obtain ⟨r,r1,r2,r3⟩:=bV hI.len hb
       obtain ⟨a',b',rr,cc,x1,x2,x3,x4,x5⟩:=r1
       rw [e1] at x1;cases x1
       rw [f1] at x2;cases x2
       simp only [zX,dif_pos,if_pos c6,Option.some.injEq] at x3
       subst x3
       simp only at x4
       split at x4
       ·rename_i hle
        cases x4;cases x5
        have hall:∀ d∈ys.map (bD w),d.cells.length=tsz P e:=fun d hd=>by
         obtain ⟨q,_,rfl⟩:=List.mem_map.1 hd
         rw [aF,ak];exact c5
        have hlen:a.length+ys.length≤9223372036854775807:=by
         have:=Nat.le_mul_of_pos_right (a.length+ys.length) (Nat.pos_of_ne_zero c6)
         omega
        simp only [aP,hop,hcl,hx,ht,List.map_cons,List.map_nil,he,f2,hv,e2]
        refine ⟨c1,c2,c3,c4,hall,c5,by rw [List.length_map,List.length_map];exact hle,by rw [List.length_map,List.length_map];exact hlen,r2 _ ?_⟩
        have h4:=(hI.strip n).snoc (⟨.sl w,a++ys⟩:Val)
        have h5:Inst (env++[⟨.sl w,a++ys⟩]) ({ ((y.strip n).more [.sl w]) with ow:=n::(y.strip n).ow,vc:=(n,(w,.var y.g.length))::(y.strip n).vc }:Sy) ({ s.strip n with ow:=n::(s.strip n).ow,vc:=(n,(w.size,a.map (bD w)++ys.map (bD w)))::(s.strip n).vc }:Sa) :=
         ⟨h4.g,h4.rd,h4.n,h4.ts,h4.sv,h4.bx,h4.lp,by have:=h4.ow;simp only [Sy.more] at this;simp only [this],⟨a++ys,_,by rw [List.map_append],r3,h4.vc⟩⟩
        exact h5.put o.dst rfl
       ·cases x4
      ·cases h
     ·cases h
    ·cases h
   ·cases h
  ·cases h
 ·cases h
end
end Go.Tx
