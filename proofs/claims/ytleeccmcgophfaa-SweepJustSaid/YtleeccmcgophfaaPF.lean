import Derived.Test.YtleeccmcgophfaaPE
import Derived.Test.YtleeccmcgophfaaPC
set_option linter.all false
namespace Go.Tx
open Go Go.Ab
section
variable {P:Program} {S:tV} {CS:Calls'} {env:List Val} {y:Sy} {s:Sa} {p:Name} {o:Oper} {k:Sa→Prop}
abbrev Nx (o:Oper) (s:Sa) (k:Sa→Prop) (z:SV):List Val→Prop:=fun e=>∀ v,ah e z v→k (s.put o.dst v)
def H8 (P:Program) (t:TypeId):Bool:=match P.underlying t with | some .bool=>true | _=>false
theorem Mc {P:Program} {t:TypeId} (h:H8 P t=true):P.underlying t=some .bool:=by
 unfold H8 at h;split at h
 ·assumption
 ·cases h
def Zu (w:Option Ty):SV→Option (Ty×E)
 | .e t x=>some (t,x)
 | .kd cs=>asE w (.kd cs)
 | _=>none
theorem H9 {w:Option Ty} {z:SV} {v:V} {t:Ty} {x:E} (h:Zu w z=some (t,x)) (hv:ah env z v):∃ a,x.val env=some ⟨t,a⟩∧v = .d (bD t a):=by
 cases z <;> simp only [Zu,reduceCtorEq] at h
 case e u q=>cases h;simp only [ah] at hv;exact hv
 case kd cs =>
  obtain ⟨a,h1,h2⟩:=qJ h hv
  simp only [ah] at hv;subst hv
  simp only [V.toD,V.lu,Option.some.injEq] at h2
  exact ⟨a,h1,by rw [h2]⟩
theorem iE {q:IntKind} {a:(Ty.int q).den}:bD (.int q) a = .v (.int q a):=rfl
theorem dL {a:Ty.bool.den}:bD .bool a = .v (.bool a):=rfl
theorem JB {a:Ty.str.den}:bD .str a = .v (.string a):=rfl
def TL (c:E):List E→Bool
 | [g]=>g.same c
 | _=>false
theorem JC {c:E} {gs:List E} (h:TL c gs=true):gs=[c]:=by
 unfold TL at h
 split at h
 ·rw [E.same_eq h]
 ·cases h
def Xe (c x y:SV):Option SV :=
 match c with
 | .e .bool (.bool true)=>some x
 | .e .bool (.bool false)=>some y
 | .e .bool c=>match x,y with
  | .gd gs (.e t a),.e u b=>if t=u∧TL c gs=true then some (.e t (.pick c a b)) else none
  | .e t a,.gd gs (.e u b)=>if t=u∧TL (.p1 .not c) gs=true then some (.e t (.pick c a b)) else none
  | .e t a,.e u b=>if t=u then some (.e t (.pick c a b)) else none
  | _,_=>none
 | _=>none
theorem holds_one {c:E} {b:Bool} (h:c.val env=some ⟨.bool,b⟩):holds env [c]=some b:=by simp [holds,h]
theorem TM {c x z w:SV} {cv xv zv:V} (h:Xe c x z=some w) (hc:ah env c cv) (hx:ah env x xv) (hz:ah env z zv) :
  ∃ b,cv = .d (.v (.bool b))∧(b=true→ah env w xv)∧(b=false→ah env w zv):=by
 unfold Xe at h
 split at h
 ·cases h
  simp only [ah] at hc
  obtain ⟨a,h1,rfl⟩:=hc
  cases h1
  exact ⟨true,rfl,fun _=>hx,fun e=>nomatch e⟩
 ·cases h
  simp only [ah] at hc
  obtain ⟨a,h1,rfl⟩:=hc
  cases h1
  exact ⟨false,rfl,fun e=>(nomatch e),fun _=>hz⟩
 ·rename_i c' _ _
  simp only [ah] at hc
  obtain ⟨b,hb,rfl⟩:=hc
  refine ⟨b,rfl,?_⟩
  split at h
  ·split at h
   ·rename_i gs t a u d hh
    obtain ⟨rfl,h2⟩:=hh
    cases h
    have hg:=JC h2
    subst hg
    simp only [ah,typed] at hx hz ⊢
    obtain ⟨r,k1,⟨a1,k2⟩,k3,k4⟩:=hx
    rw [holds_one hb] at k1
    cases k1
    obtain ⟨a2,k5,rfl⟩:=hz
    refine ⟨fun e=>?_,fun e=>⟨_,je hb k2 k5,by rw [if_neg (by simp [e])]⟩⟩
    obtain ⟨a3,k6,rfl⟩:=k3 e
    rw [k2] at k6;cases k6
    exact ⟨_,je hb k2 k5,by rw [if_pos e]⟩
   ·cases h
  ·split at h
   ·rename_i t a gs u d hh
    obtain ⟨rfl,h2⟩:=hh
    cases h
    have hg:=JC h2
    subst hg
    simp only [ah,typed] at hx hz ⊢
    obtain ⟨r,k1,⟨a1,k2⟩,k3,k4⟩:=hz
    have hn:(E.p1 .not c').val env=some ⟨.bool,!b⟩:=by simp [E.val,app1,hb,jU]
    rw [holds_one hn] at k1
    cases k1
    obtain ⟨a2,k5,rfl⟩:=hx
    refine ⟨fun e=>⟨_,je hb k5 k2,by rw [if_pos e]⟩,fun e=>?_⟩
    obtain ⟨a3,k6,rfl⟩:=k3 (by simp [e])
    rw [k2] at k6;cases k6
    exact ⟨_,je hb k5 k2,by rw [if_neg (by simp [e])]⟩
   ·cases h
  ·split at h
   ·rename_i e
    subst e
    cases h
    simp only [ah] at hx hz ⊢
    obtain ⟨a1,k1,rfl⟩:=hx
    obtain ⟨a2,k2,rfl⟩:=hz
    exact ⟨fun e=>⟨_,je hb k1 k2,by rw [if_pos e]⟩,fun e=>⟨_,je hb k1 k2,by rw [if_neg (by simp [e])]⟩⟩
   ·cases h
  ·cases h
 ·cases h
def aaZ (P:Program) (op:BinOp) (t:TypeId) (nv:Nat) (tx:Ty) (x:E) (ty:Ty) (z:E):Option (List (B×Ty)×SV) :=
 match tx,ty with
 | .int k,.int q=>match op with
  | .shl=>some ([(.r2 (.par .shl) x z,.int k)],.e (.int k) (.var nv))
  | .shr=>some ([(.r2 (.par .shr) x z,.int k)],.e (.int k) (.var nv))
  | .quo=>if k=q then some ([(.r2 (.par .quo) x z,.int k)],.e (.int k) (.var nv)) else none
  | .rem=>if k=q then some ([(.r2 (.par .rem) x z,.int k)],.e (.int k) (.var nv)) else none
  | op=>if k=q then (ty2 (.bin op) (.int k) (.int q)).map fun u=>([],.e u (.p2 (.bin op) x z)) else none
 | .bool,.bool=>if H8 P t=true then (ty2 (.bin op) .bool .bool).map fun u=>([],.e u (.p2 (.bin op) x z)) else none
 | .str,.str=>(ty2 (.bin op) .str .str).map fun u=>([],.e u (.p2 (.bin op) x z))
 | .st a,.st b=>if Ty.st b=Ty.st a∧(jO P t).isSome=true∧jO P t=jT (.st a) then (ty2 (.bin op) (.st a) (.st b)).map fun u=>([],.e u (.p2 (.bin op) x z)) else none
 | .arr n a,.arr m b=>if Ty.arr m b=Ty.arr n a∧(jO P t).isSome=true∧jO P t=jT (.arr n a) then (ty2 (.bin op) (.arr n a) (.arr m b)).map fun u=>([],.e u (.p2 (.bin op) x z)) else none
 | _,_=>none
theorem qh {env:List Val} {v:Val} {n:Nat} (h:env.length=n):(E.var n).val (env++[v])=some v:=by
 simp [E.val,← h]
theorem bQ {nv:Nat} {t:Ty} {b:B} {Q:List Val→Prop} (hn:env.length=nv) (h:iP CS [(b,t)] env Q):∃ a:t.den,b.ok CS env ⟨t,a⟩∧Q (env++[⟨t,a⟩])∧(E.var nv).val (env++[⟨t,a⟩])=some ⟨t,a⟩:=by
 simp only [iP] at h
 obtain ⟨⟨u,a⟩,h0,h1,h2⟩:=h
 simp only at h0;subst h0
 exact ⟨a,h1,h2,qh hn⟩
theorem Xf {op:BinOp} {t:TypeId} {tx tz:Ty} {x z:E} {bs:List (B×Ty)} {w:SV} {a:tx.den} {b:tz.den} {nv:Nat} (h:aaZ P op t nv tx x tz z=some (bs,w)) (hn:env.length=nv)
  (hx:x.val env=some ⟨tx,a⟩) (hz:z.val env=some ⟨tz,b⟩) (hop:∃ xo yo yt,o.op = .binOp op t xo yo yt∧s.get xo = .d (bD tx a)∧s.get yo = .d (bD tz b)) (hb:iP CS bs env (Nx o s k w)):aP P S p o s k:=by
 obtain ⟨xo,yo,yt,hop,ex,ey⟩:=hop
 simp only [aP,hop,ey,ex]
 have total:∀ {u:Ty},ty2 (.bin op) tx tz=some u→bs=[]→w = .e u (.p2 (.bin op) x z)→∃ f,lX (.bin op) tx tz=some ⟨u,f⟩∧k (s.put o.dst (.d (bD u (f a b)))):=by
  intro u hu hbs hw
  subst hbs;subst hw
  obtain ⟨f,h1,h2⟩:=Hw hu hx hz
  exact ⟨f,h1,hb _ (by simp only [ah];exact ⟨_,h2,rfl⟩)⟩
 unfold aaZ at h
 split at h
 ·rename_i kk q
  split at h
  ·cases h
   obtain ⟨c,h1,h2,h3⟩:=bQ hn hb
   obtain ⟨a',b',r,c',e1,e2,e3,e4,e5⟩:=h1
   rw [hx] at e1;cases e1
   rw [hz] at e2;cases e2
   cases e3
   simp only at e4
   split at e4
   ·rename_i hc
    cases e4
    cases e5
    simp only [iE,KO]
    exact ⟨hc,h2 _ (by simp only [ah];exact ⟨_,h3,rfl⟩)⟩
   ·cases e4
  ·cases h
   obtain ⟨c,h1,h2,h3⟩:=bQ hn hb
   obtain ⟨a',b',r,c',e1,e2,e3,e4,e5⟩:=h1
   rw [hx] at e1;cases e1
   rw [hz] at e2;cases e2
   cases e3
   simp only at e4
   split at e4
   ·rename_i hc
    cases e4
    cases e5
    simp only [iE,KO]
    exact ⟨hc,h2 _ (by simp only [ah];exact ⟨_,h3,rfl⟩)⟩
   ·cases e4
  ·split at h
   ·rename_i hkq
    subst hkq
    cases h
    obtain ⟨c,h1,h2,h3⟩:=bQ hn hb
    obtain ⟨a',b',r,c',e1,e2,e3,e4,e5⟩:=h1
    rw [hx] at e1;cases e1
    rw [hz] at e2;cases e2
    simp only [CB,if_true,Option.some.injEq] at e3
    subst e3
    simp only at e4
    split at e4
    ·rename_i hc
     cases e4
     cases e5
     simp only [iE,KO]
     exact ⟨trivial,hc,h2 _ (by simp only [ah];exact ⟨_,h3,rfl⟩)⟩
    ·cases e4
   ·cases h
  ·split at h
   ·rename_i hkq
    subst hkq
    cases h
    obtain ⟨c,h1,h2,h3⟩:=bQ hn hb
    obtain ⟨a',b',r,c',e1,e2,e3,e4,e5⟩:=h1
    rw [hx] at e1;cases e1
    rw [hz] at e2;cases e2
    simp only [CB,if_true,Option.some.injEq] at e3
    subst e3
    simp only at e4
    split at e4
    ·rename_i hc
     cases e4
     cases e5
     simp only [iE,KO]
     exact ⟨trivial,hc,h2 _ (by simp only [ah];exact ⟨_,h3,rfl⟩)⟩
    ·cases e4
   ·cases h
  ·split at h
   ·rename_i hkq
    subst hkq
    obtain ⟨u,hu,he⟩:=Option.map_eq_some_iff.1 h
    cases he
    obtain ⟨f,h1,h2⟩:=total hu rfl rfl
    simp only [lX,if_true] at h1
    simp only [iE]
    cases op <;> simp only [WY,reduceCtorEq,Option.some.injEq] at h1 <;> first
     | contradiction
     | (cases h1;simp only [KO,cmpInt,arith];exact ⟨trivial,h2⟩)
   ·cases h
 ·split at h
  ·rename_i ht
   obtain ⟨u,hu,he⟩:=Option.map_eq_some_iff.1 h
   cases he
   obtain ⟨f,h1,h2⟩:=total hu rfl rfl
   simp only [dL,KO]
   refine ⟨Mc ht,?_⟩
   cases op <;> simp only [lX,reduceCtorEq,Option.some.injEq] at h1 <;> (cases h1;exact h2)
  ·cases h
 ·obtain ⟨u,hu,he⟩:=Option.map_eq_some_iff.1 h
  cases he
  obtain ⟨f,h1,h2⟩:=total hu rfl rfl
  simp only [JB,KO]
  cases op <;> simp only [lX,reduceCtorEq,Option.some.injEq] at h1 <;> (cases h1;exact h2)
 ·rename_i a1 b1
  split at h
  ·rename_i hc
   obtain ⟨hab,hs,hks⟩:=hc
   obtain ⟨u,hu,he⟩:=Option.map_eq_some_iff.1 h
   cases he
   obtain ⟨f,h1,h2⟩:=total hu rfl rfl
   cases hab
   obtain ⟨ks,hk⟩:=Option.isSome_iff_exists.1 hs
   rw [bY rfl,bY rfl]
   simp only [hk]
   cases he:eqT a1 with
   | none=>simp [lX,he] at h1
   | some g =>
    have hq:=Vx (show jT a1=some ks by rw [← hks.symm.trans hk];rfl) he a b
    simp only [enc,hq]
    cases op <;> simp only [lX,he,dif_pos,reduceCtorEq,Option.some.injEq] at h1 <;> (cases h1;exact h2)
  ·cases h
 ·rename_i n1 a1 m1 b1
  split at h
  ·rename_i hc
   obtain ⟨hab,hs,hks⟩:=hc
   obtain ⟨u,hu,he⟩:=Option.map_eq_some_iff.1 h
   cases he
   obtain ⟨f,h1,h2⟩:=total hu rfl rfl
   cases hab
   obtain ⟨ks,hk⟩:=Option.isSome_iff_exists.1 hs
   rw [bY rfl,bY rfl]
   simp only [hk]
   cases he:eqT (.arr n1 a1) with
   | none=>simp [lX,he] at h1
   | some g =>
    have hq:=Vx (show jT (.arr n1 a1)=some ks by rw [← hks,hk]) he a b
    simp only [hq]
    cases op <;> simp only [lX,he,dif_pos,reduceCtorEq,Option.some.injEq] at h1 <;> (cases h1;exact h2)
  ·cases h
 ·cases h
end
end Go.Tx
namespace Go.Tx
open Go Go.Ab
section
variable {P:Program} {S:tV} {CS:Calls'} {env:List Val} {y:Sy} {s:Sa} {p:Name} {o:Oper} {k:Sa→Prop}
theorem xU {ag:Bool} {off sz:Nat} {v:Ty} {b:v.den} {ds:List D} (h2:v.ag=some ag) (h3:v.size=sz) (h4:off+sz≤ds.length) (h5:enc v b=(ds.drop off).take sz):bF ag off sz (.d (.agg ds)) = .d (bD v b):=by
 cases ag with
 | true =>
  rw [bY h2];simp only [bF]
  split
  ·rename_i hz;rw [h5,hz.1,List.drop_zero,List.take_of_length_le (by omega)]
  ·rw [h5]
 | false =>
  obtain ⟨e1,e2⟩:=jM h2 b
  simp only [bF]
  have hs:=iC h2
  have:ds[off]? = some (bD v b):=by
   rw [e1] at h5
   have h6:=congrArg (fun l:List D=>l[0]?) h5
   rw [List.getElem?_take_of_lt (by omega),List.getElem?_drop] at h6
   simpa using h6.symm
  rw [this];rfl
def Zv (off m:Nat) (u v:Ty) (x:E):Option E :=
 if off=0∧v = .arr m u then some x else if ty1 (.part off (some (.arr m u))) v=some (.arr m u) then some (.p1 (.part off (some (.arr m u))) x) else none
theorem Ia {off m:Nat} {u v:Ty} {x z:E} {b:v.den} (h:Zv off m u v x=some z) (hx:x.val env=some ⟨v,b⟩) :
  ∃ f:(Ty.arr m u).den,z.val env=some ⟨.arr m u,f⟩∧off+m * u.size≤v.size∧enc (.arr m u) f=((enc v b).drop off).take (m * u.size)∧bD v b = .agg (enc v b):=by
 unfold Zv at h
 split at h
 ·rename_i hc
  cases h
  obtain ⟨h0,h1⟩:=hc
  subst h1
  exact ⟨b,hx,by simp only [Ty.size];omega,by rw [h0,List.drop_zero,List.take_of_length_le (by rw [ak];exact Nat.le_refl _)],rfl⟩
 ·split at h
  ·rename_i hc
   cases h
   obtain ⟨f,h1,h2⟩:=Zt hc hx
   obtain ⟨k1,k2,k3⟩:=xI _ _ _ _ _ (show nO v off (some (.arr m u))=some ⟨.arr m u,f⟩ from h1)
   refine ⟨f b,h2,k1,k3 b,?_⟩
   unfold bD jw
   split
   ·rename_i ha
    exfalso
    simp only [jU] at h1
    cases v <;> simp [Ty.ag] at ha <;> simp [nO,hit,Ty.ag] at h1
   ·rfl
  ·cases h
def Xg (nv:Nat) (bx:List (Name×SV)) (ag:Bool) (w:Option Ty) (sz:Nat):SV→Option (List (B×Ty)×SV)
 | .ptr n off=>match aj n bx with
  | some c=>(CP ag w off sz c).map fun z=>([],z)
  | none=>none
 | .ref u x off=>(xO ag w off sz u x).map fun r=>([],.e r.1 r.2)
 | .aptr n off m u i inn=>match aj n bx with
  | some (.e v x)=>match Zv off m u v x with
   | some z=>(xO ag w inn sz u (.var nv)).map fun r=>([(.r2 .UL z i,u)],.e r.1 r.2)
   | none=>none
  | _=>none
 | _=>none
theorem xW {α:Type} {a b:List α} (n:Nat) (h:a <+: b):a.drop n <+: b.drop n:=by
 obtain ⟨r,rfl⟩:=h
 exact ⟨r.drop (n - a.length),by rw [List.drop_append]⟩
theorem Fb {m:Nat} {u w:Ty} {f:Fin m→u.den} {ds:List D} {off inn sz j:Nat} {c:w.den} (hj:j<m) (h1:enc (.arr m u) f=(ds.drop off).take (m * u.size)) (hd:off+m * u.size≤ds.length) (hi:inn+sz≤u.size) (h2:enc w c=((enc u (f ⟨j,hj⟩)).drop inn).take sz) :
  off+j * u.size+inn+sz≤ds.length∧enc w c=(ds.drop (off+j * u.size+inn)).take sz:=by
 have hle:j * u.size+u.size≤m * u.size:=by
  have:=Nat.mul_le_mul_right u.size (show j+1≤m from hj)
  rw [Nat.add_mul,Nat.one_mul] at this;exact this
 refine ⟨by omega,?_⟩
 rw [h2,← sJ f hj hi,h1,List.drop_take,List.take_take,Nat.min_eq_left (by omega),List.drop_drop,Nat.add_assoc]
theorem TN {t:TypeId} {x:Operand} {ag:Bool} {w:Option Ty} {a z:SV} {bs:List (B×Ty)} (hop:o.op = .load t x) (hag:zX P t=some ag) (hz:ag=false→tsz P t≠0) (h:Xg y.g.length y.bx ag w (tsz P t) a=some (bs,z))
  (hI:Inst env y s) (ha:ah env a (s.get x)) (hb:iP CS bs env (Nx o s k z)):aP P S p o s k:=by
 simp only [aP,hop,hag]
 refine ⟨hz,?_⟩
 cases a <;> simp only [Xg,reduceCtorEq] at h <;> simp only [ah] at ha
 case ptr n off =>
  rw [ha]
  simp only
  split at h
  ·rename_i c hc
   obtain ⟨z',h1,h2⟩:=Option.map_eq_some_iff.1 h
   cases h2
   obtain ⟨c',e1,e2⟩:=(hI.bx.look (n:=n)).1 hc
   simp only [e1]
   obtain ⟨k1,k2⟩:=CQ h1 e2
   exact ⟨k2,hb _ k1⟩
  ·cases h
 case ref u q off =>
  obtain ⟨b,cs,e1,e2,e3⟩:=ha
  rw [e2]
  simp only
  obtain ⟨⟨v,q'⟩,h1,h2⟩:=Option.map_eq_some_iff.1 h
  cases h2
  obtain ⟨k1,k2⟩:=O1 h1 e1 e3
  exact ⟨k2,hb _ k1⟩
 case aptr n off m u i inn =>
  obtain ⟨kk,j,e1,e2,e3,e4⟩:=ha
  rw [e4]
  simp only
  split at h
  ·rename_i v q hc
   split at h
   ·rename_i zz hzz
    obtain ⟨⟨v',q'⟩,h1,h2⟩:=Option.map_eq_some_iff.1 h
    cases h2
    obtain ⟨c',g1,g2⟩:=(hI.bx.look (n:=n)).1 hc
    simp only [g1]
    simp only [ah] at g2
    obtain ⟨b,g3,rfl⟩:=g2
    obtain ⟨f,f1,f2,f3,f4⟩:=Ia hzz g3
    obtain ⟨c,r1,r2,r3⟩:=bQ hI.len hb
    obtain ⟨a',b',r,c',x1,x2,x3,x4,x5⟩:=r1
    rw [f1] at x1;cases x1
    rw [e1] at x2;cases x2
    simp only [CB,Option.some.injEq] at x3
    subst x3
    simp only at x4
    rw [dif_pos ⟨e2,e3⟩] at x4
    cases x4;cases x5
    obtain ⟨d,l1,l2,l3,l4,l5⟩:=sN h1 r3
    obtain ⟨p1,p2⟩:=Fb (ds:=enc v b) e3 f3 (by rw [ak];exact f2) l4 l5
    rw [f4]
    refine ⟨by simp only [V.cells,List.length_map];exact p1,?_⟩
    rw [xU l2 l3 p1 p2]
    exact r2 _ (by simp only [ah];exact ⟨d,l1,rfl⟩)
   ·cases h
  ·cases h
def TP:SV→Bool
 | .e t _=>decide (t.ag=some true)
 | .agg _=>true
 | .mix _ _ _ _=>true
 | .kd _=>true
 | _=>false
theorem TQ {x:SV} {v:V} (h:TP x=true) (hv:ah env x v):v.isStr=true:=by
 cases x <;> simp only [TP,Bool.false_eq_true,decide_eq_true_eq] at h <;> simp only [ah] at hv
 ·obtain ⟨a,_,rfl⟩:=hv;rw [bY h];rfl
 ·obtain ⟨_,rfl,_⟩:=hv;rfl
 ·obtain ⟨_,_,_,rfl,_⟩:=hv;rfl
 ·subst hv;rfl
def aa0 (off:Nat):SV→Option SV
 | .ptr n o=>some (.ptr n (o+off))
 | .ref u x o=>some (.ref u x (o+off))
 | .aptr n o m u i inn=>some (.aptr n o m u i (inn+off))
 | _=>none
theorem Xh {t:TypeId} {x:Operand} {i off:Nat} {ft:TypeId} {a z:SV} (hop:o.op = .fieldAddr t x i) (hf:rE P t i=some (off,ft)) (hz:tsz P ft≠0) (h:aa0 off a=some z)
  (ha:ah env a (s.get x)) (hb:Nx o s k z env):aP P S p o s k:=by
 simp only [aP,hop,hf]
 refine ⟨hz,?_⟩
 cases a <;> simp only [aa0,reduceCtorEq,Option.some.injEq] at h <;> simp only [ah] at ha <;> subst h
 case ptr n o'=>rw [ha];exact hb _ (by simp only [ah])
 case ref u q o' =>
  obtain ⟨b,cs,e1,e2,e3⟩:=ha
  rw [e2]
  refine hb _ ?_
  simp only [ah]
  refine ⟨b,cs.drop off,e1,rfl,?_⟩
  rw [← List.drop_drop]
  exact xW off e3
 case aptr n o' m u e inn =>
  obtain ⟨kk,j,e1,e2,e3,e4⟩:=ha
  rw [e4]
  refine hb _ ?_
  simp only [ah]
  exact ⟨kk,j,e1,e2,e3,by rw [Nat.add_assoc]⟩
theorem TR {t:TypeId} {x:Operand} {i off:Nat} {ft:TypeId} {ag:Bool} {w:Option Ty} {a z:SV} (hop:o.op = .field t x i) (hf:rE P t i=some (off,ft)) (hag:zX P ft=some ag) (hz:ag=false→tsz P ft≠0) (hs:TP a=true) (h:CP ag w off (tsz P ft) a=some z)
  (ha:ah env a (s.get x)) (hb:Nx o s k z env):aP P S p o s k:=by
 simp only [aP,hop,hf,hag]
 obtain ⟨k1,k2⟩:=CQ h ha
 exact ⟨hz,k2,TQ hs ha,hb _ k1⟩
def asS (w:Option Ty):SV→Option (Ty×E)
 | .e (.sl t) x=>some (t,x)
 | .own _ _ t x=>some (t,x)
 | .nil=>match w with | some (.sl t)=>some (t,.zero (.sl t)) | _=>none
 | _=>none
theorem vG {w:Option Ty} {z:SV} {v:V} {t:Ty} {x:E} (h:asS w z=some (t,x)) (hv:ah env z v):∃ a:List t.den,x.val env=some ⟨.sl t,a⟩∧sliceOf v=some (a.map (bD t)):=by
 unfold asS at h
 split at h
 ·cases h;simp only [ah] at hv;obtain ⟨a,h1,rfl⟩:=hv;exact ⟨a,h1,rfl⟩
 ·cases h;simp only [ah] at hv;obtain ⟨a,h1,_,rfl⟩:=hv;exact ⟨a,h1,rfl⟩
 ·split at h
  ·cases h;simp only [ah] at hv;subst hv;exact ⟨[],rfl,rfl⟩
  ·cases h
 ·cases h
def asI:SV→Option (IntKind×E)
 | .e (.int k) x=>some (k,x)
 | _=>none
theorem nH {z:SV} {v:V} {q:IntKind} {x:E} (h:asI z=some (q,x)) (hv:ah env z v):∃ i:Int,x.val env=some ⟨.int q,i⟩∧v = .d (.v (.int q i)):=by
 unfold asI at h
 split at h
 ·cases h;simp only [ah] at hv;obtain ⟨a,h1,rfl⟩:=hv;exact ⟨a,h1,rfl⟩
 ·cases h
def aa1 (nv:Nat) (w:Option Ty) (sz:Nat) (a i:SV):Option (List (B×Ty)×SV) :=
 match asS w a,asI i with
 | some (t,x),some (_,j)=>if t.size=sz∧sz≠0∧t.ag≠none then some ([(.r2 .idx x j,t)],.ref t (.var nv) 0) else none
 | _,_=>none
theorem Xi {t e:TypeId} {x ix:Operand} {w:Option Ty} {a i z:SV} {bs:List (B×Ty)} (hop:o.op = .indexAddr t x ix) (he:fJ P t=some e) (h:aa1 y.g.length w (tsz P e) a i=some (bs,z))
  (hI:Inst env y s) (ha:ah env a (s.get x)) (hi:ah env i (s.get ix)) (hb:iP CS bs env (Nx o s k z)):aP P S p o s k:=by
 unfold aa1 at h
 split at h
 ·rename_i u q kk j h1 h2
  split at h
  ·rename_i hc
   cases h
   obtain ⟨l,e1,e2⟩:=vG h1 ha
   obtain ⟨n,g1,g2⟩:=nH h2 hi
   obtain ⟨c,r1,r2,r3⟩:=bQ hI.len hb
   obtain ⟨a',b',r,c',x1,x2,x3,x4,x5⟩:=r1
   rw [e1] at x1;cases x1
   rw [g1] at x2;cases x2
   simp only [CB,Option.some.injEq] at x3
   subst x3
   simp only at x4
   split at x4
   ·rename_i hn
    cases x5
    obtain ⟨hlt,hget⟩:=List.getElem?_eq_some_iff.1 x4
    simp only [aP,hop,g2,kH,he,e2]
    refine ⟨hc.2.1,hn,by rw [List.length_map];omega,fun d hd=>?_⟩
    rw [List.getElem?_map,x4] at hd
    cases hd
    refine ⟨by rw [aF,ak];exact hc.1,r2 _ ?_⟩
    simp only [ah]
    exact ⟨c,_,r3,rfl,by rw [List.drop_zero,aF];exact List.prefix_refl _⟩
   ·cases x4
  ·cases h
 ·cases h
def Xj (nv:Nat) (m sz:Nat) (a i:SV) (et:Option Ty):Option (List (B×Ty)×SV) :=
 match asI i with
 | some (q,j)=>match a with
  | .ptr n off=>match j with
   | .int _ c=>if 0≤c∧c.toNat<m then some ([],.ptr n (off+c.toNat * sz)) else none
   | j=>match et with
    | some t=>if t.size=sz then some ([(.guard (.pick (.p1 .nonneg j) (.p2 (.bin .lss) j (.int q m)) (.bool false)),.unit)],.aptr n off m t j 0) else none
    | none=>none
  | .ref u x off=>match et with
   | some t=>if t.size=sz then (Zv off m t u x).map fun z=>([(.r2 .UL z j,t)],.ref t (.var nv) 0) else none
   | none=>none
  | _=>none
 | none=>none
def O6 (nv:Nat) (m:Nat) (ag:Bool) (sz:Nat) (a i:SV):Option (List (B×Ty)×SV) :=
 match asI i with
 | some (_,j)=>match a with
  | .e (.arr m' u) x=>if m' = m∧u.size=sz∧u.ag=some ag then some ([(.r2 .UL x j,u)],.e u (.var nv)) else none
  | _=>none
 | none=>none
theorem O7 {t e:TypeId} {x ix:Operand} {m:Nat} {ag:Bool} {a i z:SV} {bs:List (B×Ty)} (hop:o.op = .index t x ix) (ht:Sv P t=some (m,e)) (hag:zX P e=some ag) (h:O6 y.g.length m ag (tsz P e) a i=some (bs,z))
  (hI:Inst env y s) (ha:ah env a (s.get x)) (hi:ah env i (s.get ix)) (hb:iP CS bs env (Nx o s k z)):aP P S p o s k:=by
 unfold O6 at h
 split at h
 ·rename_i q j h1
  obtain ⟨n,g1,g2⟩:=nH h1 hi
  simp only [aP,hop,g2,kH,ht,hag]
  split at h
  ·rename_i m' u xe
   split at h
   ·rename_i hc
    obtain ⟨hm,hsz,hua⟩:=hc
    subst hm
    cases h
    simp only [ah] at ha
    obtain ⟨f,f1,f2⟩:=ha
    rw [f2]
    obtain ⟨c,r1,r2,r3⟩:=bQ hI.len hb
    obtain ⟨a',b',r,c',x1,x2,x3,x4,x5⟩:=r1
    rw [f1] at x1;cases x1
    rw [g1] at x2;cases x2
    simp only [CB,Option.some.injEq] at x3
    subst x3
    simp only at x4
    split at x4
    ·rename_i hj
     cases x4;cases x5
     have hle:n.toNat * u.size+u.size≤m' * u.size:=by
      have:=Nat.mul_le_mul_right u.size (show n.toNat+1≤m' from hj.2)
      rw [Nat.add_mul,Nat.one_mul] at this;exact this
     have hag1:bD (.arr m' u) f = .agg (enc (.arr m' u) f):=bY rfl f
     rw [hag1]
     have hlen:(enc (.arr m' u) f).length=m' * u.size:=ak _ _
     refine ⟨fun e0=>?_,hj.1,by omega,by simp only [V.cells,List.length_map,← hsz];rw [hlen];exact hle,rfl,?_⟩
     ·rw [← hsz]
      subst e0
      rw [iC hua];omega
     ·have hp:=sJ f hj.2 (o:=0) (m:=u.size) (by omega)
      simp only [Nat.add_zero,List.drop_zero] at hp
      rw [xU hua hsz (by rw [← hsz,hlen];exact hle) (by rw [← hsz,hp,List.take_of_length_le (by rw [ak];exact Nat.le_refl _)])]
      exact r2 _ (by simp only [ah];exact ⟨_,r3,rfl⟩)
    ·cases x4
   ·cases h
  ·cases h
 ·cases h
def aa2 (nv:Nat) (a i:SV):Option (List (B×Ty)×SV) :=
 match asI i,a with
 | some (_,j),.e .str x=>some ([(.r2 .sidx x j,.int .u8)],.e (.int .u8) (.var nv))
 | _,_=>none
theorem Xk {t:TypeId} {x ix:Operand} {a i z:SV} {bs:List (B×Ty)} (hop:o.op = .index t x ix) (ht:Sv P t=none) (hu:P.underlying t=some .string) (h:aa2 y.g.length a i=some (bs,z))
  (hI:Inst env y s) (ha:ah env a (s.get x)) (hi:ah env i (s.get ix)) (hb:iP CS bs env (Nx o s k z)):aP P S p o s k:=by
 unfold aa2 at h
 split at h
 ·rename_i q j xe h1
  cases h
  obtain ⟨n,g1,g2⟩:=nH h1 hi
  simp only [ah] at ha
  obtain ⟨b,b1,b2⟩:=ha
  obtain ⟨r,r1,r2,r3⟩:=bQ hI.len hb
  obtain ⟨a',b',rr,cc,x1,x2,x3,x4,x5⟩:=r1
  rw [b1] at x1;cases x1
  rw [g1] at x2;cases x2
  simp only [CB,Option.some.injEq] at x3
  subst x3
  simp only at x4
  split at x4
  ·rename_i h0
   obtain ⟨c,c1,rfl⟩:=Option.map_eq_some_iff.1 x4
   cases x5
   simp only [aP,hop,g2,kH,ht,hu,b2]
   exact ⟨h0,c,c1,r2 _ ⟨_,r3,rfl⟩⟩
  ·cases x4
 ·cases h
theorem TS {t e:TypeId} {x ix:Operand} {m:Nat} {a i z:SV} {et:Option Ty} {bs:List (B×Ty)} (hop:o.op = .indexAddr t x ix) (he:fJ P t=none) (ht:Sv P t=some (m,e)) (hm:2≤m) (hsz:tsz P e≠0) (h:Xj y.g.length m (tsz P e) a i et=some (bs,z))
  (hI:Inst env y s) (ha:ah env a (s.get x)) (hi:ah env i (s.get ix)) (hb:iP CS bs env (Nx o s k z)):aP P S p o s k:=by
 unfold Xj at h
 split at h
 ·rename_i q j h1
  obtain ⟨n,g1,g2⟩:=nH h1 hi
  simp only [aP,hop,g2,kH,he,ht]
  split at h
  ·rename_i nm off
   simp only [ah] at ha
   split at h
   ·rename_i kk c
    split at h
    ·rename_i hc
     cases h
     simp only [E.val] at g1
     split at g1
     ·cases g1
      refine ⟨hsz,hc.1,by omega,hm,?_⟩
      rw [ha]
      exact hb _ (by simp only [ah])
     ·cases g1
    ·cases h
   ·split at h
    ·rename_i u
     split at h
     ·rename_i hs
      cases h
      simp only [iP] at hb
      obtain ⟨v,v1,⟨v2,v3⟩,v4⟩:=hb
      have hg:0≤n∧n<m:=by
       have hA:(E.p1 .nonneg j).val env=some ⟨.bool,decide (0≤n)⟩:=by simp [E.val,app1,g1,jU]
       by_cases hin:inR q (m:Int)=true
       ·have hB:(E.p2 (.bin .lss) j (.int q m)).val env=some ⟨.bool,decide (n<(m:Int))⟩:=by simp [E.val,Jw,g1,hin,lX,WY]
        rw [je hA hB (a2:=false) rfl] at v2
        by_cases h0:0≤n
        ·simp [h0] at v2;exact ⟨h0,v2⟩
        ·simp [h0] at v2
       ·simp [E.val,Jw,g1,hin,Zr] at v2
      refine ⟨hsz,hg.1,hg.2,hm,?_⟩
      rw [ha]
      refine v4 _ ?_
      simp only [ah]
      exact ⟨q,n,E.dh _ g1,hg.1,by omega,by rw [hs];rfl⟩
     ·cases h
    ·cases h
  ·rename_i u q' off
   split at h
   ·rename_i u'
    split at h
    ·rename_i hs
     obtain ⟨zz,h3,h4⟩:=Option.map_eq_some_iff.1 h
     cases h4
     simp only [ah] at ha
     obtain ⟨b,cs,e1,e2,e3⟩:=ha
     obtain ⟨f,f1,f2,f3,f4⟩:=Ia h3 e1
     obtain ⟨c,r1,r2,r3⟩:=bQ hI.len hb
     obtain ⟨a',b',r,c',x1,x2,x3,x4,x5⟩:=r1
     rw [f1] at x1;cases x1
     rw [g1] at x2;cases x2
     simp only [CB,Option.some.injEq] at x3
     subst x3
     simp only at x4
     split at x4
     ·rename_i hn
      cases x4;cases x5
      refine ⟨hsz,hn.1,by omega,hm,?_⟩
      rw [e2]
      refine r2 _ ?_
      simp only [ah]
      refine ⟨_,_,r3,rfl,?_⟩
      rw [List.drop_zero]
      have h6:=Fb (inn:=0) (sz:=u'.size) (w:=u') (c:=f ⟨n.toNat,hn.2⟩) (ds:=enc u b) hn.2 f3 (by rw [ak];exact f2) (by omega) (by rw [List.drop_zero,List.take_of_length_le (by rw [ak];exact Nat.le_refl _)])
      rw [h6.2,Nat.add_zero,← List.drop_drop,← hs]
      exact (List.take_prefix _ _).trans (xW _ e3)
     ·cases x4
    ·cases h
   ·cases h
  ·cases h
 ·cases h
end
end Go.Tx
namespace Go.Tx
open Go Go.Ab
section
variable {P:Program} {S:tV} {CS:Calls'} {env:List Val} {y:Sy} {s:Sa} {p:Name} {o:Oper} {k:Sa→Prop}
def loE:Option SV→Option E
 | some l=>(asI l).map fun r=>r.2
 | none=>some (.int .i64 0)
def hiE (x:E):Option SV→Option E
 | some l=>(asI l).map fun r=>r.2
 | none=>some (.p1 .len x)
def Ib (a:SV) (hi:Option SV) (sz:Nat) (t:Ty) (x:E):SV:=match a,hi with
 | .own i z _ _,none=>if z=sz then .own i z t x else .e (.sl t) x
 | _,_=>.e (.sl t) x
def aa3 (nv:Nat) (w:Option Ty) (sz:Nat) (a:SV) (lo hi:Option SV):Option (List (B×Ty)×SV) :=
 match asS w a with
 | some (t,x)=>match loE lo,hiE x hi with
  | some l,some h=>if t.size=sz∧sz≠0 then some ([(.r3 .slc x l h,.sl t)],Ib a hi sz t (.var nv)) else none
  | _,_=>none
 | none=>none
def TT (env:List Val) (s:Sa):Option Operand→Option SV→Prop
 | some l,some c=>ah env c (s.get l)
 | none,none=>True
 | _,_=>False
theorem Md {env' : List Val} {a:SV} {v:V} {hi:Option Operand} {his:Option SV} {w:Option Ty} {t:Ty} {q x:E} {sz:Nat} {l:List t.den} (ha:asS w a=some (t,q)) (hv:ah env a v) (hh:TT env s hi his) (hz:t.size=sz) (hx:x.val env' = some ⟨.sl t,l⟩) :
  ah env' (Ib a his sz t x) (wS v hi sz (l.map (bD t))):=by
 have he:ah env' (.e (.sl t) x) (.d (.sl (l.map (bD t)))):=by simp only [ah];exact ⟨l,hx,by rw [OX]⟩
 cases a with
 | own i z t0 x0 =>
  simp only [ah] at hv
  obtain ⟨al,h1,h2,rfl⟩:=hv
  cases hi with
  | none =>
   cases his with
   | some c=>exact hh.elim
   | none =>
    simp only [Ib,wS]
    split
    ·rename_i e;subst e
     simp only [ah];exact ⟨l,hx,hz,rfl⟩
    ·exact he
  | some h' =>
   cases his with
   | none=>exact hh.elim
   | some c=>exact he
 | gd gs x0=>simp [asS] at ha
 | e t0 x0=>simp only [ah] at hv;obtain ⟨al,h1,rfl⟩:=hv;exact he
 | nil=>simp only [ah] at hv;subst hv;exact he
 | kd cs=>simp only [ah] at hv;subst hv;exact he
 | _=>simp [asS] at ha
theorem Xl {t e:TypeId} {x:Operand} {lo hi:Option Operand} {w:Option Ty} {a z:SV} {los his:Option SV} {bs:List (B×Ty)} (hop:o.op = .slice t x lo hi none) (he:fJ P t=some e) (h:aa3 y.g.length w (tsz P e) a los his=some (bs,z))
  (hI:Inst env y s) (ha:ah env a (s.get x)) (hlo:TT env s lo los) (hhi:TT env s hi his)
  (hb:iP CS bs env (Nx o s k z)):aP P S p o s k:=by
 unfold aa3 at h
 split at h
 ·rename_i u q h1
  split at h
  ·rename_i l hh h2 h3
   split at h
   ·rename_i hc
    cases h
    obtain ⟨xs,e1,e2⟩:=vG h1 ha
    have core:∀ (q1 q2:IntKind) (i j:Int),l.val env=some ⟨.int q1,i⟩→hh.val env=some ⟨.int q2,j⟩→0≤i∧i≤j∧j≤xs.length∧k (s.put o.dst (wS (s.get x) hi (tsz P e) (((xs.map (bD u)).take j.toNat).drop i.toNat))):=by
     intro q1 q2 i j l1 m1
     obtain ⟨c,r1,r2,r3⟩:=bQ hI.len hb
     obtain ⟨a',b',d',r,c',x1,x2,x3,x4,x5,x6⟩:=r1
     rw [e1] at x1;cases x1
     rw [l1] at x2;cases x2
     rw [m1] at x3;cases x3
     simp only [LZ,Option.some.injEq] at x4
     subst x4
     simp only at x5
     split at x5
     ·rename_i hn
      cases x5;cases x6
      refine ⟨hn.1,hn.2.1,hn.2.2,r2 _ ?_⟩
      have:=Md (hi:=hi) h1 ha hhi hc.1 r3
      rw [List.map_drop,List.map_take] at this
      exact this
     ·cases x5
    have hall:∀ d∈xs.map (bD u),d.cells.length=tsz P e:=fun d hd=>by
     obtain ⟨z,_,rfl⟩:=List.mem_map.1 hd
     rw [aF,ak];exact hc.1
    cases lo with
    | none =>
     cases los with
     | some c=>exact hlo.elim
     | none =>
      cases h2
      cases hi with
      | none =>
       cases his with
       | some c=>exact hhi.elim
       | none =>
        cases h3
        obtain ⟨k1,k2,k3,k4⟩:=core .i64 .i64 0 xs.length rfl (by simp [E.val,app1,e1,jU])
        simp only [aP,hop,he,e2]
        rw [List.length_map]
        exact ⟨hc.2,k1,k2,k3,fun _=>hall,k4⟩
      | some hi =>
       cases his with
       | none=>exact hhi.elim
       | some c =>
        obtain ⟨⟨q2,z'⟩,h4,h5⟩:=Option.map_eq_some_iff.1 h3
        simp only at h5;subst h5
        obtain ⟨j,g1,g2⟩:=nH h4 hhi
        obtain ⟨k1,k2,k3,k4⟩:=core .i64 q2 0 j rfl g1
        simp only [aP,hop,he,e2,g2,kH]
        rw [List.length_map]
        exact ⟨hc.2,k1,k2,k3,fun _=>hall,k4⟩
    | some lo =>
     cases los with
     | none=>exact hlo.elim
     | some c1 =>
      obtain ⟨⟨q1,z1⟩,h6,h7⟩:=Option.map_eq_some_iff.1 h2
      simp only at h7;subst h7
      obtain ⟨i,f1,f2⟩:=nH h6 hlo
      cases hi with
      | none =>
       cases his with
       | some c=>exact hhi.elim
       | none =>
        cases h3
        obtain ⟨k1,k2,k3,k4⟩:=core q1 .i64 i xs.length f1 (by simp [E.val,app1,e1,jU])
        simp only [aP,hop,he,e2,f2,kH]
        rw [List.length_map]
        exact ⟨hc.2,k1,k2,k3,fun _=>hall,k4⟩
      | some hi =>
       cases his with
       | none=>exact hhi.elim
       | some c =>
        obtain ⟨⟨q2,z'⟩,h4,h5⟩:=Option.map_eq_some_iff.1 h3
        simp only at h5;subst h5
        obtain ⟨j,g1,g2⟩:=nH h4 hhi
        obtain ⟨k1,k2,k3,k4⟩:=core q1 q2 i j f1 g1
        simp only [aP,hop,he,e2,f2,g2,kH]
        rw [List.length_map]
        exact ⟨hc.2,k1,k2,k3,fun _=>hall,k4⟩
   ·cases h
  ·cases h
 ·cases h
def notE:E→E
 | .bool b=>.bool (!b)
 | x=>.p1 .not x
theorem Xm {env:List Val} {x:E} {b:Bool} (h:x.val env=some ⟨.bool,b⟩):(notE x).val env=some ⟨.bool,!b⟩:=by
 unfold notE
 split
 ·cases h;rfl
 ·simp [E.val,app1,h,jU]
def unS (op:UnOp):SV→Option SV
 | .e .bool x=>match op with | .not=>some (.e .bool (notE x)) | _=>none
 | .e (.int q) x=>match op with | .neg=>some (.e (.int q) (.p1 .neg x)) | _=>none
 | _=>none
theorem Zw {op:UnOp} {t:TypeId} {x:Operand} {a z:SV} (hop:o.op = .unOp op t x) (h:unS op a=some z) (ha:ah env a (s.get x)) (hb:Nx o s k z env):aP P S p o s k:=by
 simp only [aP,hop]
 unfold unS at h
 split at h
 ·split at h
  ·cases h
   simp only [ah] at ha
   obtain ⟨b,h1,h2⟩:=ha
   rw [h2,dL]
   exact hb _ (by simp only [ah];exact ⟨!b,Xm h1,rfl⟩)
  ·cases h
 ·split at h
  ·rename_i q _ _
   cases h
   simp only [ah] at ha
   obtain ⟨b,h1,h2⟩:=ha
   rw [h2,iE]
   exact hb _ (by simp only [ah];exact ⟨q.wrap (0 - b),by simp [E.val,app1,h1,jU],rfl⟩)
  ·cases h
 ·cases h
def Xn (kd:IntKind):SV→Option SV
 | .e (.int q) x=>if q=kd then some (.e (.int q) x) else some (.e (.int kd) (.p1 (.conv kd) x))
 | _=>none
theorem wrap_in {q:IntKind} {n:Int} (h:inR q n=true):q.wrap n=n:=by
 cases q <;> simp only [inR,decide_eq_true_eq] at h <;> simp only [IntKind.wrap,IntKind.bits,IntKind.signed] <;> simp <;> omega
theorem TU {src t:TypeId} {x:Operand} {kd:IntKind} {a z:SV} (hop:o.op = .convert src t x) (ht:P.underlying t=some (.int kd)) (hs:(P.underlying src).isSome=true) (hw:bW env) (h:Xn kd a=some z) (ha:ah env a (s.get x)) (hb:Nx o s k z env):aP P S p o s k:=by
 unfold Xn at h
 split at h
 ·rename_i q e
  simp only [ah] at ha
  obtain ⟨b,h1,h2⟩:=ha
  simp only [aP,hop,ht,h2,iE]
  refine ⟨hs,?_⟩
  split at h
  ·rename_i e
   subst e
   cases h
   refine hb _ ?_
   simp only [ah]
   exact ⟨b,h1,by rw [wrap_in (jD.1 (E.vC hw h1))];rfl⟩
  ·cases h
   exact hb _ (by simp only [ah];exact ⟨kd.wrap b,by simp [E.val,app1,h1,jU],rfl⟩)
 ·cases h
def aa4 (op:BinOp) (a:SV):Option (List (B×Ty)×SV) :=
 match a with
 | .nil=>match op with | .eql=>some ([],.e .bool (.bool true)) | .neq=>some ([],.e .bool (.bool false)) | _=>none
 | a=>match asS none a with
  | some (_,x)=>match op with
   | .eql=>some ([(.guard (.p1 .some1 x),.unit)],.e .bool (.bool false))
   | .neq=>some ([(.guard (.p1 .some1 x),.unit)],.e .bool (.bool true))
   | _=>none
  | none=>none
theorem Xo {op:BinOp} {t e:TypeId} {x z yt} {a w:SV} {bs:List (B×Ty)} (hop:o.op = .binOp op t x z yt) (ht:fJ P t=some e) (hz:s.get z = .nil) (h:aa4 op a=some (bs,w)) (ha:ah env a (s.get x)) (hb:iP CS bs env (Nx o s k w)):aP P S p o s k:=by
 simp only [aP,hop,hz,ht]
 unfold aa4 at h
 split at h
 ·simp only [ah] at ha
  simp only [ha]
  split at h
  ·cases h;exact hb _ (by simp only [ah];exact ⟨true,rfl,rfl⟩)
  ·cases h;exact hb _ (by simp only [ah];exact ⟨false,rfl,rfl⟩)
  ·cases h
 ·split at h
  ·rename_i u q h1
   obtain ⟨xs,e1,e2⟩:=vG h1 ha
   have key:∀ (r:Bool),bs=[(.guard (.p1 .some1 q),.unit)]→w = .e .bool (.bool r)→xs≠[]∧k (s.put o.dst (.d (.v (.bool r)))):=by
    intro r h3 h4
    subst h3;subst h4
    simp only [iP] at hb
    obtain ⟨v,v1,⟨v2,v3⟩,v4⟩:=hb
    have:(E.p1 .some1 q).val env=some ⟨.bool,!xs.isEmpty⟩:=by simp [E.val,app1,e1,jU]
    rw [this] at v2
    cases hx:xs.isEmpty with
    | true=>rw [hx] at v2;cases v2
    | false =>
     refine ⟨fun e=>by rw [e] at hx;simp at hx,v4 _ (by simp only [ah];exact ⟨r,rfl,rfl⟩)⟩
   have hs:(s.get x = .d (.sl (xs.map (bD u)))∨∃ i z,s.get x = .own i z (xs.map (bD u))):=by
    have:=e2
    unfold asS at h1
    split at h1
    ·simp only [ah] at ha;obtain ⟨b,_,hb'⟩:=ha;rw [hb'] at e2 ⊢; simp only [OX,sliceOf,Option.some.injEq] at e2 ⊢; exact .inl (by rw [e2])
    ·simp only [ah] at ha;obtain ⟨b,_,_,hb'⟩:=ha;rw [hb'] at e2 ⊢; simp only [sliceOf,Option.some.injEq] at e2;exact .inr ⟨_,_,by rw [e2]⟩
    ·cases h1
    ·cases h1
   have hne:∀ {r:Bool},xs≠[]→(xs.map (bD u)=[]→r=true):=fun hx he=>by
    have:=List.map_eq_nil_iff.1 he;exact absurd this hx
   split at h
   ·cases h
    obtain ⟨k1,k2⟩:=key false rfl rfl
    rcases hs with hs | ⟨i,zz,hs⟩
    ·simp only [hs];exact ⟨fun he=>absurd (List.map_eq_nil_iff.1 he) k1,k2⟩
    ·simp only [hs];exact ⟨fun he=>absurd (List.map_eq_nil_iff.1 he) k1,k2⟩
   ·cases h
    obtain ⟨k1,k2⟩:=key true rfl rfl
    rcases hs with hs | ⟨i,zz,hs⟩
    ·simp only [hs];exact ⟨fun he=>absurd (List.map_eq_nil_iff.1 he) k1,k2⟩
    ·simp only [hs];exact ⟨fun he=>absurd (List.map_eq_nil_iff.1 he) k1,k2⟩
   ·cases h
  ·cases h
def aa5 (P:Program) (t:TypeId) (a:SV):Option SV :=
 match fJ P t with
 | some _=>match a with
  | .nil=>some (.e (.int .i64) (.int .i64 0))
  | a=>(asS none a).map fun r=>.e (.int .i64) (.p1 .len r.2)
 | none=>match P.underlying t with
  | some .string=>match a with
   | .e .str x=>some (.e (.int .i64) (.p1 .len x))
   | _=>none
  | some (.array n _)=>if n≤9223372036854775807∧inR .i64 n=true then some (.e (.int .i64) (.int .i64 n)) else none
  | _=>none
theorem Xp {c:Call} {x:Operand} {t:TypeId} {ts:List TypeId} {a z:SV} (hop:o.op = .call c) (hc:c.callee = .builtin .len) (hx:c.args.toList=[x]) (ht:c.argTypes.toList=t::ts) (h:aa5 P t a=some z) (ha:ah env a (s.get x)) (hb:Nx o s k z env):aP P S p o s k:=by
 simp only [aP,hop,hc,hx,ht,List.map_cons,List.map_nil]
 unfold aa5 at h
 split at h
 ·rename_i e he
  split at h
  ·cases h
   simp only [ah] at ha
   simp only [he,ha,sliceOf]
   exact hb _ (by simp only [ah];exact ⟨0,rfl,rfl⟩)
  ·obtain ⟨⟨u,q⟩,h1,h2⟩:=Option.map_eq_some_iff.1 h
   cases h2
   obtain ⟨xs,e1,e2⟩:=vG h1 ha
   simp only [he,e2]
   exact hb _ (by simp only [ah];exact ⟨xs.length,by simp [E.val,app1,e1,jU],by rw [List.length_map];rfl⟩)
 ·rename_i he
  split at h
  ·rename_i hu
   split at h
   ·cases h
    simp only [ah] at ha
    obtain ⟨b,h1,h2⟩:=ha
    simp only [he,hu,h2,JB]
    exact hb _ (by simp only [ah];exact ⟨b.size,by simp [E.val,app1,h1,jU],rfl⟩)
   ·cases h
  ·rename_i n e' hu
   split at h
   ·rename_i hn
    cases h
    simp only [he,hu]
    exact ⟨hn.1,hb _ (by simp only [ah];exact ⟨n,by simp [E.val,hn.2],rfl⟩)⟩
   ·cases h
  ·cases h
def mmS (gt:Bool) (a b:SV):Option SV :=
 match a,b with
 | .e (.int q) x,.e (.int r) z=>if q=r then some (.e (.int q) (.pick (.p2 (.bin (if gt then .gtr else .lss)) z x) z x)) else none
 | _,_=>none
theorem VD {c:Call} {gt:Bool} {x z:Operand} {a b w:SV} (hop:o.op = .call c) (hc:c.callee = .builtin (if gt then .max else .min)) (hx:c.args.toList=[x,z]) (h:mmS gt a b=some w) (ha:ah env a (s.get x)) (hb' : ah env b (s.get z)) (hb:Nx o s k w env):aP P S p o s k:=by
 unfold mmS at h
 split at h
 ·rename_i q e r f
  split at h
  ·rename_i hqr
   subst hqr
   cases h
   simp only [ah] at ha hb'
   obtain ⟨m,h1,h2⟩:=ha
   obtain ⟨n,h3,h4⟩:=hb'
   cases gt with
   | true =>
    simp only [if_true] at hc hb
    simp only [aP,hop,hc,hx,List.map_cons,List.map_nil,h2,h4,iE]
    refine ⟨trivial,hb _ ?_⟩
    simp only [ah]
    have hg:(E.p2 (.bin .gtr) f e).val env=some ⟨.bool,decide (n>m)⟩:=by simp [E.val,Jw,h1,h3,lX,WY]
    exact ⟨_,je hg h3 h1,by simp only [decide_eq_true_eq];split <;> rfl⟩
   | false =>
    simp only [Bool.false_eq_true,if_false] at hc hb
    simp only [aP,hop,hc,hx,List.map_cons,List.map_nil,h2,h4,iE]
    refine ⟨trivial,hb _ ?_⟩
    simp only [ah]
    have hg:(E.p2 (.bin .lss) f e).val env=some ⟨.bool,decide (n<m)⟩:=by simp [E.val,Jw,h1,h3,lX,WY]
    exact ⟨_,je hg h3 h1,by simp only [decide_eq_true_eq];split <;> rfl⟩
  ·cases h
 ·cases h
theorem Me {x:Operand} {i:Nat} {vs:List SV} {z:SV} (hop:o.op = .extract x i) (h:vs[i]? = some z) (ha:ah env (.tup vs) (s.get x)) (hb:Nx o s k z env):aP P S p o s k:=by
 simp only [ah] at ha
 obtain ⟨c,h1,h2⟩:=ha
 obtain ⟨v,h3,h4⟩:=h2.get h
 simp only [aP,hop,h1,h3]
 exact hb _ h4
def getAll (g:Operand→Option SV):List Operand→Option (List SV)
 | []=>some []
 | o::os=>match g o,getAll g os with
  | some x,some xs=>some (x::xs)
  | _,_=>none
theorem oN {g:Operand→Option SV} (hg:∀ o x,g o=some x→ah env x (s.get o)):∀ {os:List Operand} {xs:List SV},getAll g os=some xs→aB env xs (os.map s.get)
 | [],xs,h=>by cases h;simp [aB]
 | o::os,xs,h=>by
  simp only [getAll] at h
  split at h
  ·rename_i x xs' h1 h2
   cases h
   simp only [List.map_cons,aB]
   exact ⟨_,_,rfl,hg _ _ h1,oN hg h2⟩
  ·cases h
theorem Ic {f:FuncId} {cap:Array Operand} {xs:List SV} (hop:o.op = .makeFunc (.func f) #[] cap) (h:aB env xs (cap.toList.map s.get)) (hb:Nx o s k (.fn f xs) env):aP P S p o s k:=by
 simp only [aP,hop]
 exact ⟨trivial,hb _ (by simp only [ah];exact ⟨_,rfl,h⟩)⟩
def xX (t:Ty) (v:V):Bool:=match v with
 | .d (.v c)=>decide (t.ag=some false)&&(oI t [.v c]).isSome&&(match oI t [.v c] with | some []=>true | _=>false)
 | _=>false
theorem Aw {t:Ty} {v:V} (h:xX t v=true):v = .d (bD t t.zero)∧t.ag=some false:=by
 unfold xX at h
 split at h
 ·rename_i c
  simp only [Bool.and_eq_true,decide_eq_true_eq] at h
  obtain ⟨⟨h1,h2⟩,h3⟩:=h
  split at h3
  ·rename_i he
   have:=HY _ _ _ he
   rw [List.append_nil,(jM h1 _).1] at this
   simp only [List.cons.injEq,and_true] at this
   exact ⟨by rw [this],h1⟩
  ·cases h3
 ·cases h
def Xq (k:IntKind) (kd:IntKind) (t:Ty) (m:E) (q:IntKind) (a:E) (ok:Bool):Option SV :=
 if k=kd∧q=kd then some (if ok then .tup [.e t (.p2 .mget m a),.e .bool (.p2 .mhas m a)] else .e t (.p2 .mget m a)) else none
theorem Fg {t:Ty} (a:Int):∀ {l:List (Int×t.den)} {kvs:List (Int×Value)},l.map (fun y=>(y.1,Vy t y.2))=kvs.map (fun y=>(y.1,some y.2)) →
  (∃ c,mg a kvs=some c ∧ .v c=bD t (bK t.zero l a)∧Hu l a=true)∨(mg a kvs=none∧bK t.zero l a=t.zero∧Hu l a=false)
 | [],[],_=>.inr ⟨rfl,rfl,rfl⟩
 | [],_::_,h=>by simp at h
 | _::_,[],h=>by simp at h
 | (b,x)::l,(b',c)::kvs,h=>by
  simp only [List.map_cons,List.cons.injEq,Prod.mk.injEq] at h
  obtain ⟨⟨h1,h2⟩,h3⟩:=h
  subst h1
  simp only [mg,bK,Hu]
  split
  ·exact .inl ⟨c,rfl,(Jz h2).symm,rfl⟩
  ·exact Fg a h3
theorem TV {t et:TypeId} {x ix:Operand} {ok:Bool} {n:Name} {kd k' q:IntKind} {u:Ty} {m a:E} {z:SV} (hop:o.op = .lookup t x ix ok) (hk:BF P t=some kd) (he:NM P t=some et) (hz:xX u (bV P et)=true)
  (hn:s.get x = .mref n) {c:V} (hl:aj n s.bx=some c) (hc:ah env (.mpc k' u m) c) (hi:ah env (.e (.int q) a) (s.get ix)) (h:Xq k' kd u m q a ok=some z) (hb:Nx o s k z env):aP P S p o s k:=by
 unfold Xq at h
 split at h
 ·rename_i hh
  obtain ⟨rfl,rfl⟩:=hh
  simp only [ah] at hc hi
  obtain ⟨l,kvs,e1,rfl,e2⟩:=hc
  obtain ⟨i,e3,e4⟩:=hi
  obtain ⟨z1,z2⟩:=Aw hz
  simp only [aP,hop,hk,he,hn,hl,e4,iE]
  refine ⟨trivial,trivial,by rw [z1];rfl,?_⟩
  have v1:(E.p2 .mget m a).val env=some ⟨u,bK u.zero l i⟩:=by simp [E.val,Jw,e1,e3,lX]
  have v2:(E.p2 .mhas m a).val env=some ⟨.bool,Hu l i⟩:=by simp [E.val,Jw,e1,e3,lX]
  have hv:((mg i kvs).map (fun c=>V.d (.v c))).getD (bV P et) = .d (bD u (bK u.zero l i))∧(mg i kvs).isSome=Hu l i:=by
   rcases Fg i e2 with ⟨c,g1,g2,g3⟩ | ⟨g1,g2,g3⟩
   ·rw [g1,g3];exact ⟨by simp only [Option.map_some,Option.getD_some,g2],rfl⟩
   ·rw [g1,g2,g3];exact ⟨by simp only [Option.map_none,Option.getD_none,z1],rfl⟩
  rw [hv.1,hv.2]
  cases h
  cases ok with
  | true =>
   refine hb _ ?_
   simp only [if_true,ah]
   refine ⟨_,rfl,?_⟩
   simp only [aB,ah]
   exact ⟨_,_,rfl,⟨_,v1,rfl⟩,_,_,rfl,⟨_,v2,rfl⟩,rfl⟩
  | false =>
   refine hb _ ?_
   simp only [Bool.false_eq_true,if_false,ah]
   exact ⟨_,v1,rfl⟩
 ·cases h
end
end Go.Tx
namespace Go.Tx
open Go Go.Ab
section
variable {P:Program} {S:tV} {CS:Calls'} {env:List Val} {y:Sy} {s:Sa} {p:Name} {o:Oper} {k:Sa→Prop}
theorem O8 (ds:List D):eX V.lu (ds.map V.d)=some ds:=by
 induction ds with
 | nil=>rfl
 | cons d ds ih=>simp [eX,ih,V.lu]
theorem wF {f:V→Option D}:∀ {vs:List V} {ds:List D},eX f vs=some ds→ds.length=vs.length
 | [],ds,h=>by cases h;rfl
 | v::vs,ds,h=>by
  simp only [eX] at h
  split at h
  ·rename_i x xs h1 h2;cases h;simp [wF h2]
  ·cases h
theorem Fh {f:V→Option D}:∀ {n:Nat} {vs:List V} {ds:List D},eX f vs=some ds→eX f (vs.take n)=some (ds.take n)
 | 0,vs,ds,h=>by simp [eX]
 | n+1,[],ds,h=>by cases h;simp [eX]
 | n+1,v::vs,ds,h=>by
  simp only [eX] at h
  split at h
  ·rename_i x xs h1 h2;cases h;simp only [List.take_succ_cons];exact oJ h1 (Fh h2)
  ·cases h
theorem Fj {f:V→Option D}:∀ {n:Nat} {vs:List V} {ds:List D},eX f vs=some ds→eX f (vs.drop n)=some (ds.drop n)
 | 0,vs,ds,h=>h
 | n+1,[],ds,h=>by cases h;simp [eX]
 | n+1,v::vs,ds,h=>by
  simp only [eX] at h
  split at h
  ·rename_i x xs h1 h2;cases h;simp only [List.drop_succ_cons];exact Fj h2
  ·cases h
theorem O9 {vs us:List V} {ds es:List D} {off:Nat} (h1:eX V.lu vs=some ds) (h2:eX V.lu us=some es):eX V.lu (over vs us off)=some (over ds es off):=by
 simp only [over]
 rw [wF h2]
 exact wB (wB (Fh h1) h2) (Fj h1)
theorem Pg {w:Option Ty} {z:SV} {v:V} {t:Ty} {x:E} (h:asE w z=some (t,x)) (hv:ah env z v):∃ a,x.val env=some ⟨t,a⟩∧eX V.lu v.cells=some (enc t a)∧isCells v=true:=by
 have h':=h
 have hv':=hv
 cases z <;> simp only [asE,Vz,reduceCtorEq] at h
 case e u q =>
  cases h;simp only [ah] at hv;obtain ⟨a,h1,rfl⟩:=hv
  exact ⟨a,h1,by rw [iD,aF];exact O8 _,rfl⟩
 case own i sz u q =>
  cases h;simp only [ah] at hv;obtain ⟨a,h1,h2,rfl⟩:=hv
  exact ⟨a,h1,rfl,rfl⟩
 case nil =>
  simp only [ah] at hv;subst hv
  split at h
  ·cases h;exact ⟨[],rfl,rfl,rfl⟩
  ·cases h
 case kd cs =>
  obtain ⟨a,h1,h2⟩:=qJ h' hv'
  simp only [ah] at hv;subst hv
  simp only [V.toD,V.lu,Option.some.injEq] at h2
  refine ⟨a,h1,?_,rfl⟩
  rw [iD,D.OI,← aF,← h2]
  exact O8 _
 case mix t0 x0 os zs =>
  simp only [ah] at hv
  obtain ⟨a,c,h1,rfl,h3,h4,h5⟩:=hv
  split at h
  ·rename_i u e hp
   split at h
   ·rename_i hag
    cases h
    obtain ⟨b,r1,r2,r3⟩:=oK hp h1 h4 h3 (wC h5)
    exact ⟨b,r1,r3,rfl⟩
   ·cases h
  ·cases h
 case agg cs =>
  split at h
  ·split at h
   ·rename_i w' u x' h1
    split at h
    ·rename_i ha
     cases h
     simp only [ah] at hv
     obtain ⟨c,rfl,h2⟩:=hv
     obtain ⟨a,us,vs',e1,e2,e3,e4⟩:=CJ _ _ _ _ _ _ h1 h2
     simp only [aB] at e3
     subst e3
     rw [List.append_nil] at e2
     subst e2
     exact ⟨a,e1,e4,rfl⟩
    ·cases h
   ·cases h
  ·cases h
def TW (place:Nat→Option (Nat×Nat×Option Ty)) (t:Ty) (x:E):List (Nat×SV)→Option (Ty×E)
 | []=>some (t,x)
 | (i,v)::rest=>match place i with
  | some (off,sz,w)=>match asE w v with
   | some (u,e)=>if u.size=sz then (match ty2 (.upd off) t u with
    | some t'=>TW place t' (.p2 (.upd off) x e) rest
    | none=>none) else none
   | none=>none
  | none=>none
theorem JD {place:Nat→Option (Nat×Nat)} {pl:Nat→Option (Nat×Nat×Option Ty)} (hp:∀ i r,pl i=some r→place i=some (r.1,r.2.1)):∀ {ps:List (Nat×SV)} {qs:List (Nat×V)} {t t' : Ty} {x x' : E} {a:t.den} {vs:List V},
  TW pl t x ps=some (t',x')→aG env ps qs→x.val env=some ⟨t,a⟩→eX V.lu vs=some (enc t a)→t.ag=some true→∃ a' vs',zH place vs qs=some vs' ∧ x'.val env=some ⟨t',a'⟩∧eX V.lu vs' = some (enc t' a')∧t'.ag=some true
 | [],qs,t,t',x,x',a,vs,h,hk,hx,hv,ha=>by
  cases h
  simp only [aG] at hk
  subst hk
  exact ⟨a,vs,rfl,hx,hv,ha⟩
 | (i,z)::ps,qs,t,t',x,x',a,vs,h,hk,hx,hv,ha=>by
  simp only [aG] at hk
  obtain ⟨v,qs',rfl,h2,h3⟩:=hk
  simp only [TW] at h
  split at h
  ·rename_i off sz w hpl
   split at h
   ·rename_i u e he
    split at h
    ·rename_i hs
     split at h
     ·rename_i t1 ht1
      obtain ⟨b,e1,e2,e3⟩:=Pg he h2
      obtain ⟨f,k1,k2⟩:=Hw ht1 hx e1
      obtain ⟨g1,g2,g3,g4⟩:=jF _ _ _ _ _ (show vw t u off=some ⟨t1,f⟩ from k1)
      have hlen:v.cells.length=sz:=by rw [← wF e2,ak];exact hs
      have hvl:vs.length=t.size:=by rw [← wF hv,ak]
      have hov:=O9 (off:=off) hv e2
      rw [← g4] at hov
      obtain ⟨a',vs',r1,r2⟩:=JD hp h h3 k2 hov (by rw [g3,ha])
      refine ⟨a',vs',?_,r2⟩
      simp only [zH,hp _ _ hpl]
      rw [if_pos ⟨e3,hlen,by omega⟩]
      simp only [over,hlen] at r1
      exact r1
     ·cases h
    ·cases h
   ·cases h
  ·cases h
def CV (P:Program) (t:TypeId) (i:Nat):Option (Nat×Nat×Option Ty) :=
 match P.underlying t with
 | some (.struct fs)=>(fs[i]?).map fun f=>(f.offset,tsz P f.type,tyD P f.type)
 | some (.array _ e)=>some (i * tsz P e,tsz P e,tyD P e)
 | _=>none
theorem Az {t:TypeId}:∀ i r,CV P t i=some r→Em P t i=some (r.1,r.2.1):=by
 intro i r h
 unfold CV at h
 unfold Em
 split at h
 ·rename_i fs hf
  obtain ⟨f,h1,rfl⟩:=Option.map_eq_some_iff.1 h
  simp only [hf,h1,Option.map_some]
 ·rename_i n e hf
  cases h
  simp only [hf]
 ·cases h
def Ie (w:Ty) (ds:List D):Bool:=match oI w ds with | some []=>true | _=>false
theorem MB {w:Ty} {ds:List D} (h:Ie w ds=true):ds=enc w w.zero:=by
 unfold Ie at h
 split at h
 ·rename_i he;have:=HY _ _ _ he;rwa [List.append_nil] at this
 ·cases h
def zeroOf (P:Program) (t:TypeId):Option Ty :=
 match tyD P t with
 | some w=>match bV P t with
  | .d (.agg ds)=>if w.ag=some true∧Ie w ds=true then some w else none
  | v=>if xX w v=true then some w else none
 | none=>none
theorem xY {t:TypeId} {w:Ty} (h:zeroOf P t=some w):bV P t = .d (bD w w.zero)∧w.ag≠none:=by
 unfold zeroOf at h
 split at h
 ·rename_i w' hw
  split at h
  ·rename_i ds hd
   split at h
   ·rename_i hc
    cases h
    obtain ⟨h1,h2⟩:=hc
    rw [hd,bY h1,MB h2];exact ⟨rfl,by simp [h1]⟩
   ·cases h
  ·split at h
   ·rename_i hc
    cases h
    obtain ⟨h1,h2⟩:=Aw hc
    exact ⟨h1,by simp [h2]⟩
   ·cases h
 ·cases h
def Ph (P:Program) (t:TypeId) (ps:List (Nat×SV)):Option SV :=
 match zeroOf P t with
 | some w=>if w.ag=some true then (TW (CV P t) w (.zero w) ps).map fun r=>.e r.1 r.2 else none
 | none=>none
theorem Pj {t:TypeId} {parts:Array (Nat×Operand)} {ps:List (Nat×SV)} {z:SV} (hop:o.op = .build t parts) (ht:uX P t=true) (h:Ph P t ps=some z) (hk:aG env ps (parts.toList.map fun x=>(x.1,s.get x.2))) (hb:Nx o s k z env):aP P S p o s k:=by
 unfold Ph at h
 split at h
 ·rename_i w hw
  split at h
  ·rename_i ha
   obtain ⟨⟨t',x'⟩,h1,h2⟩:=Option.map_eq_some_iff.1 h
   cases h2
   obtain ⟨hz,_⟩:=xY hw
   obtain ⟨a',vs',r1,r2,r3,r4⟩:=JD (fun i r h=>Az i r h) h1 hk (a:=w.zero) rfl (vs:=qE P t) (by unfold qE;rw [hz,iD,aF];exact zZ _ _) ha
   simp only [aP,hop]
   refine ⟨ht,by rw [hz];rfl,?_⟩
   rw [r1]
   refine hb _ ?_
   simp only [ug,r3,ah]
   exact ⟨a',r2,by rw [bY r4]⟩
  ·cases h
 ·cases h
def Pm:SV→Bool
 | .nil=>true
 | z=>VA z
theorem qL {z:SV} (h:Pm z=true):single z=true:=by
 cases z <;> first | rfl | exact xR h
def Pn (place:Nat→Option (Nat×Nat×Option Ty)) (t:Ty) (x:E) (os:List Nat) (zs:List SV):List (Nat×SV)→Option (Ty×E×List Nat×List SV)
 | []=>some (t,x,os,zs)
 | (i,v)::rest=>match place i with
  | some (off,sz,w)=>if Pm v=true then (if sz=1∧off+1≤t.size then Pn place t x (off::(iK off 1 os zs).1) (v::(iK off 1 os zs).2) rest else none)
   else match Zu w v with
    | some (u,e)=>if u.size=sz then (match ty2 (.upd off) t u with
     | some t'=>Pn place t' (.p2 (.upd off) x e) (iK off sz os zs).1 (iK off sz os zs).2 rest
     | none=>none) else none
    | none=>none
  | none=>none
theorem CW {place:Nat→Option (Nat×Nat)} {pl:Nat→Option (Nat×Nat×Option Ty)} (hp:∀ i r,pl i=some r→place i=some (r.1,r.2.1)):∀ {ps:List (Nat×SV)} {qs:List (Nat×V)} {t:Ty} {x:E} {os:List Nat} {zs:List SV} {r:Ty×E×List Nat×List SV} {a:t.den} {c:List V},
  Pn pl t x os zs ps=some r→aG env ps qs→x.val env=some ⟨t,a⟩→c.length=t.size→aV env os zs c→(∀ i,i<t.size→i ∉ os→c[i]? = ((enc t a)[i]?).map V.d)→t.ag=some true →
  ∃ c',zH place c qs=some c' ∧ ah env (.mix r.1 r.2.1 r.2.2.1 r.2.2.2) (.agg c')∧r.1.ag=some true
 | [],qs,t,x,os,zs,r,a,c,h,hk,hx,hl,hP,hr,ha=>by
  cases h
  simp only [aG] at hk
  subst hk
  exact ⟨c,rfl,by simp only [ah];exact ⟨a,c,hx,rfl,hl,hP,hr⟩,ha⟩
 | (i,z)::ps,qs,t,x,os,zs,r,a,c,h,hk,hx,hl,hP,hr,ha=>by
  simp only [aG] at hk
  obtain ⟨v,qs',rfl,h2,h3⟩:=hk
  simp only [Pn] at h
  split at h
  ·rename_i off sz w hpl
   split at h
   ·rename_i hpat
    split at h
    ·rename_i hc
     obtain ⟨e1,e2⟩:=kV (qL hpat) h2
     have hlen:off+[v].length≤c.length:=by rw [hl];exact hc.2
     obtain ⟨q1,q2⟩:=mX (xs:=[v]) hP hlen
     simp only [List.length_cons,List.length_nil,Nat.zero_add] at q1 q2 hlen
     obtain ⟨c',r1,r2⟩:=CW hp (c:=over c [v] off) h h3 hx (by rw [kU hlen];exact hl) ⟨off,_,rfl,⟨v,by rw [gJ hlen,if_pos rfl],h2⟩,q1⟩ (fun i hi hn=>by
      simp only [List.mem_cons,not_or] at hn
      rw [gJ hlen,if_neg hn.1]
      exact hr i hi fun hm=>by have:=q2 i hn.2 hm;omega) ha
     refine ⟨c',?_,r2⟩
     simp only [zH,hp _ _ hpl]
     rw [if_pos ⟨qK (qL hpat) h2,by rw [e1];exact hc.1.symm,by rw [hc.1];exact hlen⟩]
     rw [e1,hc.1]
     exact r1
    ·cases h
   ·split at h
    ·rename_i u e he
     split at h
     ·rename_i hs
      split at h
      ·rename_i t1 ht1
       obtain ⟨b,e1,e2⟩:=H9 he h2
       obtain ⟨f,k1,k2⟩:=Hw ht1 hx e1
       obtain ⟨g1,g2,g3,g4⟩:=jF _ _ _ _ _ (show vw t u off=some ⟨t1,f⟩ from k1)
       have hcv:v.cells=(enc u b).map V.d:=by rw [e2,iD,aF]
       have hxl:((enc u b).map V.d).length=sz:=by rw [List.length_map,ak];exact hs
       have hlen:off+((enc u b).map V.d).length≤c.length:=by rw [hxl,hl];omega
       obtain ⟨q1,q2⟩:=mX (xs:=(enc u b).map V.d) hP hlen
       rw [hxl] at q1 q2
       obtain ⟨c',r1,r2⟩:=CW hp (c:=over c ((enc u b).map V.d) off) h h3 k2 (by rw [kU hlen,hl,g2]) q1 (fun i hi hn=>by
        rw [g4]
        by_cases hin:off≤i∧i<off+sz
        ·rw [CU hin.1 (by rw [hxl];exact hin.2) hlen,CU hin.1 (by rw [ak,hs];exact hin.2) (by rw [ak,ak];exact g1),List.getElem?_map]
        ·rw [wE (by rw [hxl];omega) hlen,wE (by rw [ak,hs];omega) (by rw [ak,ak];exact g1)]
         exact hr i (by omega) fun hm=>hin (q2 i hn hm)) (by rw [g3,ha])
       refine ⟨c',?_,r2⟩
       simp only [zH,hp _ _ hpl]
       rw [if_pos ⟨by rw [e2];rfl,by rw [hcv];exact hxl,by rw [hxl] at hlen;exact hlen⟩]
       rw [hcv]
       simp only [over,hxl] at r1
       exact r1
      ·cases h
     ·cases h
    ·cases h
  ·cases h
def xZ:Nat→List V→List Nat
 | _,[]=>[]
 | k,.nil::l=>k::xZ (k+1) l
 | k,_::l=>xZ (k+1) l
theorem JE:∀ (l pre:List V) ,aV env (xZ pre.length l) (List.replicate (xZ pre.length l).length .nil) (pre++l)
 | [],pre=>rfl
 | x::l,pre=>by
  have ih:=JE l (pre++[x])
  rw [List.length_append,List.append_assoc] at ih
  simp only [List.length_cons,List.length_nil,Nat.zero_add,List.singleton_append] at ih
  cases x with
  | nil=>exact ⟨pre.length,_,rfl,⟨.nil,by simp,rfl⟩,ih⟩
  | _=>exact ih
theorem AA:∀ (l:List V) (k i:Nat),l[i]? = some .nil→k+i∈xZ k l
 | [],k,i,h=>by simp at h
 | x::l,k,0,h=>by
  simp only [List.getElem?_cons_zero,Option.some.injEq] at h
  subst h;exact List.mem_cons_self
 | x::l,k,i+1,h=>by
  have ih:=AA l (k+1) i (by simpa using h)
  rw [show k+1+i=k+(i+1) from by omega] at ih
  cases x with
  | nil=>exact List.mem_cons_of_mem _ ih
  | _=>exact ih
def Po (P:Program) (t:TypeId) (ps:List (Nat×SV)):Option SV :=
 match zeroOf P t with
 | some w=>if w.ag=some true then (match Pn (CV P t) w (.zero w) (xZ 0 (qE P t)) (List.replicate (xZ 0 (qE P t)).length .nil) ps with
  | some (t',x',os,zs)=>if zs.any solid=true then some (.mix t' x' os zs) else none
  | none=>none) else none
 | none=>none
theorem Pq {t:TypeId} {parts:Array (Nat×Operand)} {ps:List (Nat×SV)} {z:SV} (hop:o.op = .build t parts) (ht:uX P t=true) (h:Po P t ps=some z) (hk:aG env ps (parts.toList.map fun x=>(x.1,s.get x.2))) (hb:Nx o s k z env):aP P S p o s k:=by
 unfold Po at h
 split at h
 ·rename_i w hw
  split at h
  ·rename_i ha
   split at h
   ·rename_i t' x' os zs hf
    split at h
    ·rename_i hsol
     cases h
     obtain ⟨hz,_⟩:=xY hw
     obtain ⟨c',r1,r2,r3⟩:=CW (fun i r h=>Az i r h) hf hk (a:=w.zero) rfl (c:=qE P t) (by unfold qE;rw [nP,hz,iD,aF,List.length_map,ak]) (JE (qE P t) []) (fun i _ hni=>by
      unfold qE at hni ⊢
      rcases wR (Sz P t) (bV P t).cells i with e | ⟨e,_,_⟩
      ·rw [e,hz,iD,aF,List.getElem?_map]
      ·exact absurd (by have:=AA _ 0 i e;rwa [Nat.zero_add] at this) hni) ha
     simp only [aP,hop]
     refine ⟨ht,by rw [hz];rfl,?_⟩
     rw [r1]
     have r2':=r2
     simp only [ah] at r2
     obtain ⟨a,c,g1,g2,g3,g4,g5⟩:=r2
     cases g2
     have:=aV.fQ (f:=V.lu) (fun x v h1 h2=>(fQ h1 h2).1) g4 hsol
     refine hb _ ?_
     simp only [ug,this]
     exact r2'
    ·cases h
   ·cases h
  ·cases h
 ·cases h
def aaM (t:Ty):List SV→Option (List E)
 | []=>some []
 | z::zs=>match asE (some t) z,aaM t zs with
  | some (u,e),some es=>if u=t then some (e::es) else none
  | _,_=>none
theorem Pv {t:Ty}:∀ {zs:List SV} {vs:List V} {es:List E},aaM t zs=some es→aB env zs vs→∃ l:List t.den,evs env es=some (l.map fun x=>(⟨t,x⟩:Val))∧eX V.toD vs=some (l.map (bD t))
 | [],vs,es,h,hl=>by
  cases h
  simp only [aB] at hl
  subst hl
  exact ⟨[],rfl,rfl⟩
 | z::zs,vs,es,h,hl=>by
  simp only [aB] at hl
  obtain ⟨v,vs',rfl,h2,h3⟩:=hl
  simp only [aaM] at h
  split at h
  ·rename_i u e es' h4 h5
   split at h
   ·rename_i hu
    subst hu
    cases h
    obtain ⟨a,e1,e2⟩:=qJ h4 h2
    obtain ⟨l,e3,e4⟩:=Pv h5 h3
    exact ⟨a::l,by simp [evs,e1,e3],oJ e2 e4⟩
   ·cases h
  ·cases h
theorem Px {t:Ty} (l:List t.den):Hy t (l.map fun x=>(⟨t,x⟩:Val))=some l:=by
 induction l with
 | nil=>rfl
 | cons x l ih=>simp [Hy,ih]
def Xr (P:Program) (nv:Nat) (t:TypeId) (len:Nat) (ids:List Nat) (zs:List SV):Option (List (B×Ty)×SV) :=
 match fJ P t with
 | some e=>match tyD P e with
  | some w=>if w.size=tsz P e∧tsz P e≠0∧isCells (bV P e)=true∧len * tsz P e≤16777216∧ids=List.range len∧len≠0 then (aaM w zs).map fun es=>([(.list w es,.sl w)],.e (.sl w) (.var nv)) else none
  | none=>none
 | none=>none
theorem TY {t:TypeId} {len:Nat} {parts:Array (Nat×Operand)} {zs:List SV} {z:SV} {bs:List (B×Ty)} (hop:o.op = .buildSlice t len parts) (h:Xr P y.g.length t len (parts.toList.map (·.1)) zs=some (bs,z)) (hI:Inst env y s)
  (hl:aB env zs (parts.toList.map fun x=>s.get x.2)) (hb:iP CS bs env (Nx o s k z)):aP P S p o s k:=by
 unfold Xr at h
 split at h
 ·rename_i e he
  split at h
  ·rename_i w hw
   split at h
   ·rename_i hc
    obtain ⟨es,h1,h2⟩:=Option.map_eq_some_iff.1 h
    cases h2
    obtain ⟨l,e1,e2⟩:=Pv h1 hl
    obtain ⟨c,r1,r2,r3⟩:=bQ hI.len hb
    obtain ⟨vs,l',x1,x2,x3,x4⟩:=r1
    rw [e1] at x1;cases x1
    rw [Px] at x2;cases x2
    cases x4
    simp only [aP,hop,he,e2]
    refine ⟨hc.2.1,hc.2.2.1,hc.2.2.2.1,hc.2.2.2.2.1,fun d hd=>?_,?_⟩
    ·obtain ⟨q,_,rfl⟩:=List.mem_map.1 hd
     rw [aF,ak];exact hc.1
    ·rw [if_neg hc.2.2.2.2.2]
     exact r2 _ (by simp only [ah];exact ⟨_,r3,rfl⟩)
   ·cases h
  ·cases h
 ·cases h
def resD:(t:Ty)→t.den→List D
 | .unit,_=>[]
 | .prod a b,x=>bD a x.1::resD b x.2
 | t,x=>[bD t x]
def Ig:Ty→Bool
 | .unit=>false
 | _=>true
def Py:Ty→Bool
 | .unit=>true
 | .prod a b=>decide (a.ag≠none)&&Ig b&&Py b
 | t=>decide (t.ag≠none)
def Zx:Ty→E→List SV
 | .unit,_=>[]
 | .prod a b,x=>.e a (.p1 .fst x)::Zx b (.p1 .snd x)
 | t,x=>[.e t x]
def aa6 (t:Ty) (x:E):SV:=match t with
 | .unit=>.tup []
 | .prod a b=>.tup (Zx (.prod a b) x)
 | t=>.e t x
theorem Xt:∀ (t:Ty) (x:E) (a:t.den),x.val env=some ⟨t,a⟩→aB env (Zx t x) ((resD t a).map V.d):=by
 intro t
 induction t with
 | prod a b iha ihb =>
  intro x c hx
  simp only [Zx,resD,List.map_cons,aB]
  refine ⟨_,_,rfl,?_,ihb _ _ (by simp [E.val,app1,hx,jU])⟩
  simp only [ah]
  exact ⟨_,by simp only [E.val,app1,hx,jU,Option.map_some],rfl⟩
 | unit=>intro x c hx;simp [Zx,resD,aB]
 | int q=>intro x c hx;exact ⟨_,_,rfl,⟨c,hx,rfl⟩,rfl⟩
 | bool=>intro x c hx;exact ⟨_,_,rfl,⟨c,hx,rfl⟩,rfl⟩
 | str=>intro x c hx;exact ⟨_,_,rfl,⟨c,hx,rfl⟩,rfl⟩
 | cst q=>intro x c hx;exact ⟨_,_,rfl,⟨c,hx,rfl⟩,rfl⟩
 | st q _=>intro x c hx;exact ⟨_,_,rfl,⟨c,hx,rfl⟩,rfl⟩
 | arr n q _=>intro x c hx;exact ⟨_,_,rfl,⟨c,hx,rfl⟩,rfl⟩
 | sl q _=>intro x c hx;exact ⟨_,_,rfl,⟨c,hx,rfl⟩,rfl⟩
 | mp q u _=>intro x c hx;exact ⟨_,_,rfl,⟨c,hx,rfl⟩,rfl⟩
theorem Ua {b:Ty} {x:b.den} (h:Ig b=true):resD b x≠[]:=by
 cases b with
 | unit=>cases h
 | prod c d=>exact List.cons_ne_nil _ _
 | int q=>exact List.cons_ne_nil _ _
 | bool=>exact List.cons_ne_nil _ _
 | str=>exact List.cons_ne_nil _ _
 | cst q=>exact List.cons_ne_nil _ _
 | st q=>exact List.cons_ne_nil _ _
 | arr n q=>exact List.cons_ne_nil _ _
 | sl q=>exact List.cons_ne_nil _ _
 | mp q u=>exact List.cons_ne_nil _ _
theorem Ih {t:Ty} {x:E} {a:t.den} (ht:Py t=true) (hx:x.val env=some ⟨t,a⟩):ah env (aa6 t x) (iU ((resD t a).map V.d)):=by
 have hl:=Xt t x a hx
 cases t with
 | prod b c =>
  have ht' : (decide (b.ag≠none)&&Ig c&&Py c)=true:=ht
  rw [Bool.and_eq_true,Bool.and_eq_true] at ht'
  have hp:=Ua (x:=a.2) ht'.1.2
  have e:iU ((resD (.prod b c) a).map V.d) = .tup ((resD (.prod b c) a).map V.d):=by
   unfold iU
   split
   ·rename_i v hv
    exfalso
    have hv' : V.d (bD b a.1)::(resD c a.2).map V.d=[v]:=hv
    rw [List.cons.injEq,List.map_eq_nil_iff] at hv'
    exact hp hv'.2
   ·rfl
  rw [e]
  exact ⟨_,rfl,hl⟩
 | unit=>exact ⟨[],rfl,rfl⟩
 | int q=>exact ⟨a,hx,rfl⟩
 | bool=>exact ⟨a,hx,rfl⟩
 | str=>exact ⟨a,hx,rfl⟩
 | cst q=>exact ⟨a,hx,rfl⟩
 | st q=>exact ⟨a,hx,rfl⟩
 | arr n q=>exact ⟨a,hx,rfl⟩
 | sl q=>exact ⟨a,hx,rfl⟩
 | mp q u=>exact ⟨a,hx,rfl⟩
def Xu (P:Program) (f:FuncId) (vs:List Val) (v:Val):Prop:=∃ (w:Ty) (xs:List w.den) (us:List Val) (rty:Ty) (ys:List w.den) (r:rty.den),vs=⟨.sl w,xs⟩::us∧v=⟨.prod (.sl w) rty,(ys,r)⟩∧Oq P f w.size (xs.map (bD w)) (us.map Val.d) (ys.map (bD w)) (resD rty r)
def dF (P:Program):Calls':=fun g vs v=>(if Nat.blt g 1000000=true then kR P g (vs.map Val.d) (resD v.1 v.2) else Xu P (g - 1000000) vs v)∧v.wf
theorem Pz (g:Nat) : ¬ Nat.blt (g+1000000) 1000000=true:=by rw [Nat.blt_eq];omega
theorem PD (g:Nat):g+1000000 - 1000000=g:=Nat.add_sub_cancel g 1000000
theorem PE {g n:Nat} {vs:List Val} {v:Val} (hn:n=g+1000000) (h:dF P n vs v):Xu P g vs v:=by
 obtain ⟨h,_⟩:=h
 have h1 : ¬ Nat.blt n 1000000=true:=by rw [hn];exact Pz g
 rw [if_neg h1] at h
 have h2:n - 1000000=g:=by rw [hn];exact PD g
 rw [h2] at h;exact h
theorem Ub {g n:Nat} {vs:List Val} {v:Val} (hn:n=g+1000000) (h:Xu P g vs v) (hw:v.wf):dF P n vs v:=by
 have h1 : ¬ Nat.blt n 1000000=true:=by rw [hn];exact Pz g
 have h2:n - 1000000=g:=by rw [hn];exact PD g
 refine ⟨?_,hw⟩
 rw [if_neg h1,h2];exact h
theorem dI:oG (dF P):=fun _ _ _ h=>h.2
def Ii:List Ty→List SV→Option (List E)
 | [],[]=>some []
 | t::ts,z::zs=>match asE (some t) z,Ii ts zs with
  | some (u,e),some es=>if u=t then some (e::es) else none
  | _,_=>none
 | _,_=>none
theorem wG:∀ {ts:List Ty} {zs:List SV} {vs:List V} {es:List E},Ii ts zs=some es→aB env zs vs→∃ us:List Val,evs env es=some us∧us.map (·.1)=ts∧eX V.toD vs=some (us.map Val.d)
 | [],[],vs,es,h,hl=>by
  cases h
  simp only [aB] at hl
  subst hl
  exact ⟨[],rfl,rfl,rfl⟩
 | t::ts,z::zs,vs,es,h,hl=>by
  simp only [aB] at hl
  obtain ⟨v,vs',rfl,h2,h3⟩:=hl
  simp only [Ii] at h
  split at h
  ·rename_i u e es' h4 h5
   split at h
   ·rename_i hu
    subst hu
    cases h
    obtain ⟨a,e1,e2⟩:=qJ h4 h2
    obtain ⟨us,e3,e4,e5⟩:=wG h5 h3
    exact ⟨⟨u,a⟩::us,by simp [evs,e1,e3],by simp [e4],oJ e2 e5⟩
   ·cases h
  ·cases h
 | [],_::_,vs,es,h,hl=>by simp [Ii] at h
 | _::_,[],vs,es,h,hl=>by simp [Ii] at h
abbrev Tab:=Nat→Option (List Ty×Ty)
def PG (tb:Tab) (nv:Nat) (g:Nat) (zs:List SV):Option (List (B×Ty)×SV) :=
 match tb g with
 | some (ts,r)=>match Ii ts zs with
  | some es=>if Py r=true∧Nat.blt g 1000000=true then some ([(.call g es,r)],aa6 r (.var nv)) else none
  | none=>none
 | none=>none
def Ij (P:Program) (S:tV):Prop:=∀ p g args s k ds rs,eX V.toD args=some ds→kR P g ds rs→k (iU (rs.map .d)) s→S.call p g args s k
theorem MC:Ij P (pJ P):=fun p g args s k ds rs h1 h2 h3=>pO (p:=p) h2 h1 h3
theorem x9:Ij P (BZ P):=fun p g args s k ds rs h1 h2 h3=>LG h2 h1 h3
theorem Uc {c:Call} {f:Operand} {g:Nat} {tb:Tab} {zs:List SV} {z:SV} {bs:List (B×Ty)} (hS:Ij P S) (hop:o.op = .call c) (hc:c.callee = .value f) (hf:s.get f = .d (.v (.func (.func g) #[] #[]))) (hcal:callable P g=true) (h:PG tb y.g.length g zs=some (bs,z))
  (hI:Inst env y s) (hl:aB env zs (c.args.toList.map s.get)) (hd:∀ d,o.dst=some d→d<s.n) (hb:iP (dF P) bs env (Nx o s k z)):aP P S p o s k:=by
 unfold PG at h
 split at h
 ·rename_i ts r hr
  split at h
  ·rename_i es hes
   split at h
   ·rename_i hro
    cases h
    obtain ⟨us,e1,e2,e3⟩:=wG hes hl
    obtain ⟨a,r1,r2,r3⟩:=bQ hI.len hb
    obtain ⟨vs,x1,x2⟩:=r1
    rw [e1] at x1;cases x1
    simp only [aP,hop,hc,hf]
    have x2:=x2.1
    rw [if_pos hro.2] at x2
    exact ⟨hcal,hS _ _ _ _ _ _ _ e3 x2 ⟨hd,r2 _ (Ih hro.1 r3)⟩⟩
   ·cases h
  ·cases h
 ·cases h
end
end Go.Tx
namespace Go.Tx
open Go Go.Ab
theorem sO {CS:Calls'}:∀ {bs:List (B×Ty)} {env:List Val} {Q:List Val→Prop},iP CS bs env Q→iP CS bs env (fun e=>(∃ l,e=env++l∧l.map (·.1)=bs.map (·.2))∧Q e)
 | [],env,Q,h=>⟨⟨[],by simp,rfl⟩,h⟩
 | b::bs,env,Q,h=>by
  obtain ⟨v,h0,h1,h2⟩:=h
  refine ⟨v,h0,h1,bJ ?_ (sO h2)⟩
  rintro e ⟨⟨l,e1,e2⟩,hq⟩
  exact ⟨⟨v::l,by simp [e1],by simp [h0,e2]⟩,hq⟩
def PI (g:Operand→Option SV):Option Operand→Option (Option SV)
 | none=>some none
 | some o=>(g o).map some
def JF (g:Operand→Option SV):List (Nat×Operand)→Option (List (Nat×SV))
 | []=>some []
 | (i,o)::l=>match g o,JF g l with
  | some x,some xs=>some ((i,x)::xs)
  | _,_=>none
def Zy:SV→Option SV
 | .ptr n o=>some (.ptr n o)
 | .ref t x o=>some (.ref t x o)
 | .aptr n o m t i inn=>some (.aptr n o m t i inn)
 | _=>none
def fnc? : SV→Option Nat
 | .e (.cst (.fnc g)) _=>some g
 | _=>none
abbrev Bs:=List (B×Ty)
def sQ (x:Option SV):Option (Bs×SV):=x.map fun z=>([],z)
def lookA (P:Program) (bx:List (Name×SV)) (t:TypeId) (ok:Bool) (m i:SV):Option SV :=
 match m with
 | .mref n=>match aj n bx with
  | some (.mpc k u x)=>match BF P t,NM P t,asI i with
   | some kd,some et,some (q,a)=>if xX u (bV P et)=true then Xq k kd u x q a ok else none
   | _,_,_=>none
  | _=>none
 | _=>none
def VE (P:Program) (tb:Tab) (nv:Nat) (g:Operand→Option SV) (c:Call):Option (Bs×SV) :=
 match c.callee with
 | .builtin .len=>match c.args.toList,c.argTypes.toList with
  | [x],t::_=>match g x with
   | some a=>sQ (aa5 P t a)
   | none=>none
  | _,_=>none
 | .builtin .max=>match c.args.toList with
  | [x,z]=>match g x,g z with
   | some a,some b=>sQ (mmS true a b)
   | _,_=>none
  | _=>none
 | .builtin .min=>match c.args.toList with
  | [x,z]=>match g x,g z with
   | some a,some b=>sQ (mmS false a b)
   | _,_=>none
  | _=>none
 | .value f=>match g f with
  | some z=>match fnc? z with
   | some gid=>if callable P gid=true then (match getAll g c.args.toList with
    | some zs=>PG tb nv gid zs
    | none=>none) else none
   | none=>none
  | none=>none
 | _=>none
def Ud (P:Program) (tb:Tab) (y:Sy) (g:Operand→Option SV) (op:Op):Option (Bs×SV) :=
 match op with
 | .move x=>sQ (g x)
 | .pick c a b=>match g c,g a,g b with
  | some c,some a,some b=>sQ (Xe c a b)
  | _,_,_=>none
 | .load t a=>match zX P t,g a with
  | some ag,some v=>if ag=true∨tsz P t≠0 then Xg y.g.length y.bx ag (tyD P t) (tsz P t) v else none
  | _,_=>none
 | .fieldAddr t x i=>match rE P t i,g x with
  | some (off,ft),some v=>if tsz P ft≠0 then sQ (aa0 off v) else none
  | _,_=>none
 | .field t x i=>match rE P t i,g x with
  | some (off,ft),some v=>match zX P ft with
   | some ag=>if (ag=true∨tsz P ft≠0)∧TP v=true then sQ (CP ag (tyD P ft) off (tsz P ft) v) else none
   | none=>none
  | _,_=>none
 | .indexAddr t x ix=>match g x,g ix with
  | some a,some i=>match fJ P t with
   | some e=>aa1 y.g.length (tyD P t) (tsz P e) a i
   | none=>match Sv P t with
    | some (m,e)=>if 2≤m∧tsz P e≠0 then Xj y.g.length m (tsz P e) a i (tyD P e) else none
    | none=>none
  | _,_=>none
 | .index t x ix=>match g x,g ix with
  | some a,some i=>match Sv P t with
   | some (m,e)=>match zX P e with
    | some ag=>O6 y.g.length m ag (tsz P e) a i
    | none=>none
   | none=>match P.underlying t with
    | some .string=>aa2 y.g.length a i
    | _=>none
  | _,_=>none
 | .slice t x lo hi none=>match fJ P t,g x,PI g lo,PI g hi with
  | some e,some a,some l,some h=>aa3 y.g.length (tyD P t) (tsz P e) a l h
  | _,_,_,_=>none
 | .binOp op t x z _=>match g x,g z with
  | some a,some .nil=>if (fJ P t).isSome=true then aa4 op a else none
  | some a,some b=>match Zu (tyD P t) a,Zu (tyD P t) b with
   | some (tx,ex),some (tz,ez)=>aaZ P op t y.g.length tx ex tz ez
   | _,_=>none
  | _,_=>none
 | .unOp op _ x=>match g x with
  | some a=>sQ (unS op a)
  | none=>none
 | .convert src t x=>match g x,P.underlying t with
  | some a,some (.int kd)=>if (P.underlying src).isSome=true then sQ (Xn kd a) else none
  | _,_=>none
 | .build t parts=>if uX P t=true then (match JF g parts.toList with
  | some ps=>match Ph P t ps with
   | some z=>some ([],z)
   | none=>sQ (Po P t ps)
  | none=>none) else none
 | .buildSlice t len parts=>match getAll g (parts.toList.map (·.2)) with
  | some zs=>Xr P y.g.length t len (parts.toList.map (·.1)) zs
  | none=>none
 | .makeFunc (.func f) first cap=>if first = #[] then (getAll g cap.toList).map fun zs=>([],.fn f zs) else none
 | .extract x i=>match g x with
  | some (.tup vs)=>sQ (vs[i]?)
  | _=>none
 | .nilCheck x=>match g x with
  | some a=>sQ (Zy a)
  | none=>none
 | .lookup t x ix ok=>match g x,g ix with
  | some m,some i=>sQ (lookA P y.bx t ok m i)
  | _,_=>none
 | .call c=>VE P tb y.g.length g c
 | _=>none
theorem fU {x:Option SV} {bs:Bs} {z:SV} (h:sQ x=some (bs,z)):x=some z∧bs=[]:=by
 obtain ⟨z',h1,h2⟩:=Option.map_eq_some_iff.1 h
 cases h2;exact ⟨h1,rfl⟩
section
variable {P:Program} {S:tV} {env:List Val} {y:Sy} {s:Sa} {p:Name} {o:Oper} {k:Sa→Prop} {tb:Tab}
theorem yg {g:Operand→Option SV} (hg:∀ o x,g o=some x→ah env x (s.get o)):∀ {l:List (Nat×Operand)} {ps:List (Nat×SV)},JF g l=some ps→aG env ps (l.map fun x=>(x.1,s.get x.2))
 | [],ps,h=>by cases h;simp [aG]
 | (i,o)::l,ps,h=>by
  simp only [JF] at h
  split at h
  ·rename_i x xs h1 h2
   cases h
   simp only [List.map_cons,aG]
   exact ⟨_,_,rfl,hg _ _ h1,yg hg h2⟩
  ·cases h
theorem Fp {g:Operand→Option SV} (hg:∀ o x,g o=some x→ah env x (s.get o)) {l:Option Operand} {c:Option SV} (h:PI g l=some c):TT env s l c:=by
 cases l with
 | none=>cases h;trivial
 | some l =>
  obtain ⟨x,h1,rfl⟩:=Option.map_eq_some_iff.1 h
  exact hg _ _ h1
theorem Zz {z:SV} {v:V} {g:Nat} (h:fnc? z=some g) (hv:ah env z v):v = .d (.v (.func (.func g) #[] #[])):=by
 unfold fnc? at h
 split at h
 ·cases h;simp only [ah] at hv;obtain ⟨a,_,rfl⟩:=hv;rfl
 ·cases h
theorem JG (hS:Ij P S) {g:Operand→Option SV} (hg:∀ o x,g o=some x→ah env x (s.get o)) (hI:Inst env y s) (hw:bW env) (hd:∀ d,o.dst=some d→d<s.n) {bs:Bs} {z:SV} (h:Ud P tb y g o.op=some (bs,z))
  (hb:iP (dF P) bs env (Nx o s k z)):aP P S p o s k:=by
 cases hop:o.op <;> simp only [Ud,hop,reduceCtorEq] at h
 case move x =>
  obtain ⟨h1,rfl⟩:=fU h
  simp only [aP,hop]
  exact hb _ (hg _ _ h1)
 case pick c a b =>
  split at h
  ·rename_i c' a' b' h1 h2 h3
   obtain ⟨h4,rfl⟩:=fU h
   obtain ⟨r,e1,e2,e3⟩:=TM h4 (hg _ _ h1) (hg _ _ h2) (hg _ _ h3)
   simp only [aP,hop,e1]
   exact ⟨fun e=>hb _ (e2 e),fun e=>hb _ (e3 e)⟩
  ·cases h
 case load t a =>
  split at h
  ·rename_i ag v h1 h2
   split at h
   ·rename_i hc
    exact TN hop h1 (fun e=>by rcases hc with hc | hc <;> first | exact hc | (rw [e] at hc;cases hc)) h hI (hg _ _ h2) hb
   ·cases h
  ·cases h
 case fieldAddr t x i =>
  split at h
  ·rename_i off ft v h1 h2
   split at h
   ·rename_i hc
    obtain ⟨h3,rfl⟩:=fU h
    exact Xh hop h1 hc h3 (hg _ _ h2) hb
   ·cases h
  ·cases h
 case field t x i =>
  split at h
  ·rename_i off ft v h1 h2
   split at h
   ·rename_i ag hag
    split at h
    ·rename_i hc
     obtain ⟨h3,rfl⟩:=fU h
     exact TR hop h1 hag (fun e=>by rcases hc.1 with hc | hc <;> first | exact hc | (rw [e] at hc;cases hc)) hc.2 h3 (hg _ _ h2) hb
    ·cases h
   ·cases h
  ·cases h
 case indexAddr t x ix =>
  split at h
  ·rename_i a i h1 h2
   split at h
   ·rename_i e he
    exact Xi hop he h hI (hg _ _ h1) (hg _ _ h2) hb
   ·rename_i he
    split at h
    ·rename_i m e ht
     split at h
     ·rename_i hc
      exact TS hop he ht hc.1 hc.2 h hI (hg _ _ h1) (hg _ _ h2) hb
     ·cases h
    ·cases h
  ·cases h
 case index t x ix =>
  split at h
  ·rename_i a i h1 h2
   split at h
   ·rename_i m e ht
    split at h
    ·rename_i ag hag
     exact O7 hop ht hag h hI (hg _ _ h1) (hg _ _ h2) hb
    ·cases h
   ·rename_i ht
    split at h
    ·rename_i hu
     exact Xk hop ht hu h hI (hg _ _ h1) (hg _ _ h2) hb
    ·cases h
  ·cases h
 case slice t x lo hi mx =>
  cases mx with
  | some m=>cases h
  | none =>
   simp only at h
   split at h
   ·rename_i e a l hh h1 h2 h3 h4
    exact Xl hop h1 h hI (hg _ _ h2) (Fp hg h3) (Fp hg h4) hb
   ·cases h
 case binOp op t x z' yt =>
  split at h
  ·rename_i a h1 h2
   split at h
   ·rename_i hc
    obtain ⟨e,he⟩:=Option.isSome_iff_exists.1 hc
    have:=hg _ _ h2
    simp only [ah] at this
    exact Xo hop he this h (hg _ _ h1) hb
   ·cases h
  ·rename_i a b _ h1 h2
   split at h
   ·rename_i tx ex tz ez h3 h4
    obtain ⟨a1,e1,e2⟩:=H9 h3 (hg _ _ h1)
    obtain ⟨b1,e3,e4⟩:=H9 h4 (hg _ _ h2)
    exact Xf h hI.len e1 e3 ⟨x,z',yt,hop,e2,e4⟩ hb
   ·cases h
  ·cases h
 case unOp op t x =>
  split at h
  ·rename_i a h1
   obtain ⟨h3,rfl⟩:=fU h
   exact Zw hop h3 (hg _ _ h1) hb
  ·cases h
 case convert src t x =>
  split at h
  ·rename_i a kd h1 h2
   split at h
   ·rename_i hc
    obtain ⟨h3,rfl⟩:=fU h
    exact TU hop h2 hc hw h3 (hg _ _ h1) hb
   ·cases h
  ·cases h
 case build t parts =>
  split at h
  ·rename_i ht
   split at h
   ·rename_i ps hps
    split at h
    ·rename_i z' hz
     cases h
     exact Pj hop ht hz (yg hg hps) hb
    ·obtain ⟨h3,rfl⟩:=fU h
     exact Pq hop ht h3 (yg hg hps) hb
   ·cases h
  ·cases h
 case buildSlice t len parts =>
  split at h
  ·rename_i zs hzs
   refine TY hop h hI ?_ hb
   have:=oN hg hzs
   rw [List.map_map] at this
   exact this
  ·cases h
 case makeFunc f first cap =>
  cases f with
  | func f =>
   simp only at h
   split at h
   ·rename_i hf
    subst hf
    obtain ⟨zs,h1,h2⟩:=Option.map_eq_some_iff.1 h
    cases h2
    exact Ic hop (oN hg h1) hb
   ·cases h
  | _=>cases h
 case extract x i =>
  split at h
  ·rename_i vs h1
   obtain ⟨h3,rfl⟩:=fU h
   exact Me hop h3 (hg _ _ h1) hb
  ·cases h
 case nilCheck x =>
  split at h
  ·rename_i a h1
   obtain ⟨h3,rfl⟩:=fU h
   have:=hg _ _ h1
   simp only [aP,hop]
   unfold Zy at h3
   split at h3
   ·cases h3;have h2:=this;simp only [ah] at this;simp only [this];exact hb _ (by simp only [ah])
   ·cases h3;have h2:=this;simp only [ah] at this;obtain ⟨a,cs,e1,e2,e3⟩:=this;rw [e2];exact hb _ (by rw [← e2];exact h2)
   ·cases h3;have h2:=this;simp only [ah] at this;obtain ⟨kk,j,e1,e2,e3,e4⟩:=this;rw [e4];exact hb _ (by rw [← e4];exact h2)
   ·cases h3
  ·cases h
 case lookup t x ix ok =>
  split at h
  ·rename_i m i h1 h2
   obtain ⟨h3,rfl⟩:=fU h
   unfold lookA at h3
   split at h3
   ·rename_i n
    split at h3
    ·rename_i k' u xx hl
     split at h3
     ·rename_i kd et q a h4 h5 h6
      split at h3
      ·rename_i hz
       have hm:=hg _ _ h1
       simp only [ah] at hm
       obtain ⟨c,e1,e2⟩:=(hI.bx.look (n:=n)).1 hl
       obtain ⟨ii,e3,e4⟩:=nH h6 (hg _ _ h2)
       exact TV hop h4 h5 hz hm e1 e2 (by simp only [ah];exact ⟨ii,e3,e4⟩) h3 hb
      ·cases h3
     ·cases h3
    ·cases h3
   ·cases h3
  ·cases h
 case call c =>
  unfold VE at h
  split at h
  ·rename_i hcal
   split at h
   ·rename_i x t ts hx ht
    split at h
    ·rename_i a h1
     obtain ⟨h3,rfl⟩:=fU h
     exact Xp hop hcal hx ht h3 (hg _ _ h1) hb
    ·cases h
   ·cases h
  ·rename_i hcal
   split at h
   ·rename_i x z' hx
    split at h
    ·rename_i a b h1 h2
     obtain ⟨h3,rfl⟩:=fU h
     exact VD (gt:=true) hop hcal hx h3 (hg _ _ h1) (hg _ _ h2) hb
    ·cases h
   ·cases h
  ·rename_i hcal
   split at h
   ·rename_i x z' hx
    split at h
    ·rename_i a b h1 h2
     obtain ⟨h3,rfl⟩:=fU h
     exact VD (gt:=false) hop hcal hx h3 (hg _ _ h1) (hg _ _ h2) hb
    ·cases h
   ·cases h
  ·rename_i f hcal
   split at h
   ·rename_i zf hzf
    split at h
    ·rename_i gid hgid
     split at h
     ·rename_i hcb
      split at h
      ·rename_i zs hzs
       exact Uc hS hop hcal (Zz hgid (hg _ _ hzf)) hcb h hI (oN hg hzs) hd hb
      ·cases h
     ·cases h
    ·cases h
   ·cases h
  ·cases h
end
end Go.Tx
namespace Go.Tx
open Go Go.Ab
def etD (P:Program) (t:TypeId):Option Ty:=match fJ P t with | some e=>tyD P e | none=>none
def ND (w:Option Ty):SV→SV
 | .kd cs=>match asE w (.kd cs) with | some (t,x)=>.e t x | none=>.kd cs
 | x=>x
theorem uI {env:List Val} {w:Option Ty} {z:SV} {v:V} (h:ah env z v):ah env (ND w z) v:=by
 cases z <;> try exact h
 case kd cs =>
  simp only [ND]
  split
  ·rename_i t x he
   obtain ⟨a,h1,h2⟩:=qJ he h
   simp only [ah] at h;subst h
   simp only [V.toD,V.lu,Option.some.injEq] at h2
   simp only [ah]
   exact ⟨a,h1,by rw [h2]⟩
  ·exact h
def JH (P:Program) (t:TypeId):Option SV:=match bV P t with
 | .nil=>some .nil
 | _=>(zeroOf P t).map fun w=>.e w (.zero w)
theorem yh {P:Program} {env:List Val} {t:TypeId} {z:SV} (h:JH P t=some z):ah env z (bV P t):=by
 unfold JH at h
 split at h
 ·rename_i e;cases h;rw [e];simp only [ah]
 ·obtain ⟨w,h1,h2⟩:=Option.map_eq_some_iff.1 h
  subst h2
  rw [(xY h1).1]
  simp only [ah]
  exact ⟨_,rfl,rfl⟩
def isNone' {α:Type}:Option α→Bool
 | none=>true
 | some _=>false
def newS (y:Sy) (d:Nat) (p:Name) (dst:Option Tmp) (sz:Option Nat) (et:Option Ty) (z:SV):Option (Bs×Sy) :=
 match y.claim (1000000::d::p) sz et z with
 | some (z',y')=>if y.refs (d::p)=false∧isNone' (aj (d::p) y.bx)=true then some ([],({ y' with bx:=(d::p,z')::y'.bx }:Sy).put dst (.ptr (d::p) 0)) else none
 | none=>none
theorem yj {α:Type} {x:Option α} (h:isNone' x=true):x=none:=by cases x <;> simp_all [isNone']
section
variable {P:Program} {S:tV} {CS:Calls'} {env:List Val} {y:Sy} {s:Sa} {p:Name} {o:Oper} {k:Sa→Prop} {tb:Tab}
theorem PK {d:Nat} {sz:Option Nat} {et:Option Ty} {z:SV} {v:V} {bs:Bs} {y' : Sy} (h:newS y d p o.dst sz et z=some (bs,y')) (hI:Inst env y s) (hv:ah env z v) (hb:iP CS bs env fun e=>∀ s',Inst e y' s' → k s') :
  s.refs (d::p)=false∧aj (d::p) s.bx=none∧k ({ (s.claim (1000000::d::p) sz v).2 with bx:=(d::p,(s.claim (1000000::d::p) sz v).1)::(s.claim (1000000::d::p) sz v).2.bx }.put o.dst (.ptr (d::p) 0)):=by
 unfold newS at h
 split at h
 ·rename_i z' y1 hc
  split at h
  ·rename_i hh
   cases h
   obtain ⟨h1,h2⟩:=hI.claim hv hc
   refine ⟨hI.refs hh.1,(hI.bx.look (n:=d::p)).2 (yj hh.2),hb _ ?_⟩
   have h3:Inst env { y1 with bx:=(d::p,z')::y1.bx } { (s.claim (1000000::d::p) sz v).2 with bx:=(d::p,(s.claim (1000000::d::p) sz v).1)::(s.claim (1000000::d::p) sz v).2.bx } :=
    ⟨h2.g,h2.rd,h2.n,h2.ts,h2.sv,⟨_,_,rfl,h1,h2.bx⟩,h2.lp,h2.ow,h2.vc⟩
   exact h3.put o.dst rfl
  ·cases h
 ·cases h
def Fq (P:Program) (y:Sy) (dst:Option Tmp) (t:TypeId) (n:Name) (off:Nat) (v:SV):Option (Bs×Sy) :=
 match aj n y.bx with
 | some _=>match y.claim ((1000000+off)::n) (esz P t) (etD P t) v with
  | some (v',y')=>match aj n y'.bx with
   | some c=>match JA off v' c with
    | some c'=>if xP v' = some (tsz P t)∧(xP v).isSome=true∧tsz P t≠0 then some ([],({ y' with bx:=cO n c' y'.bx }:Sy).put dst .dead) else none
    | none=>none
   | none=>none
  | none=>none
 | none=>none
theorem PL {t:TypeId} {a x:Operand} {n:Name} {off:Nat} {v:SV} {bs:Bs} {y' : Sy} (hop:o.op = .store t a x) (ha:s.get a = .ptr n off) (hv:ah env v (s.get x)) (h:Fq P y o.dst t n off v=some (bs,y')) (hI:Inst env y s)
  (hb:iP CS bs env fun e=>∀ s',Inst e y' s' → k s'):aP P S p o s k:=by
 unfold Fq at h
 split at h
 ·rename_i c0 hc0
  split at h
  ·rename_i v' y1 hcl
   split at h
   ·rename_i c hc
    split at h
    ·rename_i c' hc'
     split at h
     ·rename_i hh
      cases h
      obtain ⟨h1,h2⟩:=hI.claim hv hcl
      obtain ⟨b0,e0,_⟩:=(hI.bx.look (n:=n)).1 hc0
      obtain ⟨b,e1,e2⟩:=(h2.bx.look (n:=n)).1 hc
      obtain ⟨r1,r2,r3⟩:=Fa hc' h1 e2
      obtain ⟨nn,hn⟩:=Option.isSome_iff_exists.1 hh.2.1
      simp only [aP,hop,ha,e0,e1]
      obtain ⟨q1,q2⟩:=jf hh.1 h1
      refine ⟨(jf hn hv).2,hh.2.2,q1,by omega,hb _ ?_⟩
      have h3:Inst env { y1 with bx:=cO n c' y1.bx } { (s.claim ((1000000+off)::n) (esz P t) (s.get x)).2 with bx:=cO n (cZ off (s.claim ((1000000+off)::n) (esz P t) (s.get x)).1 b) (s.claim ((1000000+off)::n) (esz P t) (s.get x)).2.bx } :=
       ⟨h2.g,h2.rd,h2.n,h2.ts,h2.sv,h2.bx.cO r1,h2.lp,h2.ow,h2.vc⟩
      exact h3.put o.dst rfl
     ·cases h
    ·cases h
   ·cases h
  ·cases h
 ·cases h
def Fv (P:Program) (y:Sy) (dst:Option Tmp) (t:TypeId) (n:Name) (off m:Nat) (u:Ty) (i:E) (inn:Nat) (v:SV):Option (Bs×Sy) :=
 match v with
 | .e w e=>match aj n y.bx with
  | some (.e b x)=>match Zv off m u b x with
   | some z =>
    let nv:=y.g.length
    if w.size=tsz P t∧tsz P t≠0∧b.ag=some true∧b.size≠1 then
     (if inn=0∧w=u then
      (if off=0∧b = .arr m u then some ([(.r3 .aset z i e,.arr m u)],({ (y.more [.arr m u]) with bx:=cO n (.e (.arr m u) (.var nv)) y.bx }:Sy).put dst .dead)
       else match ty2 (.upd off) b (.arr m u) with
       | some b'=>some ([(.r3 .aset z i e,.arr m u)],({ (y.more [.arr m u]) with bx:=cO n (.e b' (.p2 (.upd off) x (.var nv))) y.bx }:Sy).put dst .dead)
       | none=>none)
     else match ty2 (.upd inn) u w with
      | some u'=>if u' = u then (match (if off=0∧b = .arr m u then some (b,E.var (nv+1)) else (ty2 (.upd off) b (.arr m u)).map fun b'=>(b',.p2 (.upd off) x (.var (nv+1)))) with
       | some (b',q)=>some ([(.r2 .UL z i,u),(.r3 .aset z i (.p2 (.upd inn) (.var nv) e),.arr m u)],({ (y.more [u,.arr m u]) with bx:=cO n (.e b' q) y.bx }:Sy).put dst .dead)
       | none=>none) else none
      | none=>none)
    else none
   | none=>none
  | _=>none
 | _=>none
theorem Xv {i:Name} {sz:Option Nat} {d:D}:s.claim i sz (.d d)=(.d d,s):=rfl
theorem CX {m:Nat} {u b b' w:Ty} {f:Fin m→u.den} {c:b.den} {j:Nat} (hj:j<m) {off inn:Nat} {e:w.den} {x' : u.den} {q:b'.den}
  (h1:enc (.arr m u) f=((enc b c).drop off).take (m * u.size)) (hb:off+m * u.size≤b.size) (hi:inn+w.size≤u.size) (hx:enc u x' = over (enc u (f ⟨j,hj⟩)) (enc w e) inn)
  (hq:enc b' q=over (enc b c) (enc (.arr m u) fun i=>if i=⟨j,hj⟩ then x' else f i) off) :
  enc b' q=over (enc b c) (enc w e) (off+j * u.size+inn):=by
 have hle:j * u.size+u.size≤m * u.size:=by
  have:=Nat.mul_le_mul_right u.size (show j+1≤m from hj)
  rw [Nat.add_mul,Nat.one_mul] at this;exact this
 have hl:(enc (.arr m u) f).length=m * u.size:=ak _ _
 rw [hq,OM,hx]
 have hpart:=sJ f hj (o:=0) (m:=u.size) (by omega)
 simp only [Nat.add_zero,List.drop_zero] at hpart
 rw [xJ (a:=enc (.arr m u) f) (b:=enc u (f ⟨j,hj⟩)) (c:=enc w e) (o:=j * u.size) (p:=inn) (by rw [ak,ak];exact hi) (by rw [ak,ak];exact hle) (by rw [ak,hpart,List.take_of_length_le (by rw [ak];exact Nat.le_refl _)])]
 rw [xJ (a:=enc b c) (b:=enc (.arr m u) f) (c:=enc w e) (o:=off) (p:=j * u.size+inn) (by rw [ak,hl];omega) (by rw [hl,ak];exact hb) (by rw [hl,h1]),Nat.add_assoc]
theorem Fz {d:D} {ds:List D} {off:Nat} (h:off+d.cells.length≤ds.length) (ha:off=0∧d.cells.length=ds.length→d = .agg ds∨∃ cs,d = .agg cs):cZ off (.d d) (.d (.agg ds)) = .d (.agg (over ds d.cells off)):=by
 rw [xQ]
 split
 ·rename_i hc
  rw [iD,List.length_map] at hc
  have hl:d.cells.length=ds.length:=by simpa [V.cells] using hc.2
  have hcs:∃ cs,d = .agg cs:=by
   rcases ha ⟨hc.1,hl⟩ with h | h
   ·exact ⟨ds,h⟩
   ·exact h
  obtain ⟨cs,rfl⟩:=hcs
  rw [hc.1,jd (by rw [hl])]
  rfl
 ·rfl
theorem Ue {t:Ty} (h:t.size≠1) (x:t.den):bD t x = .agg (enc t x):=by
 unfold bD jw
 split
 ·rename_i ha;exact absurd (iC ha) h
 ·rfl
theorem uJ {t:TypeId} {a x:Operand} {n:Name} {off:Nat} {w b b' : Ty} {e:w.den} {c:b.den} {q:b'.den} (hop:o.op = .store t a x) (ha:s.get a = .ptr n off) (hx:s.get x = .d (bD w e)) (hn:aj n s.bx=some (.d (bD b c)))
  (h1:w.size=tsz P t) (h2:tsz P t≠0) (h3:b.ag=some true) (h4:b.size≠1) (h5:b'.ag=some true) (hle:off+w.size≤b.size) (hq:enc b' q=over (enc b c) (enc w e) off)
  (hk:k ({ s with bx:=cO n (.d (bD b' q)) s.bx }.put o.dst .dead)):aP P S p o s k:=by
 have hb:cZ off (.d (bD w e)) (.d (bD b c)) = .d (bD b' q):=by
  rw [bY h3,bY h5,Fz (by rw [aF,ak,ak];exact hle),aF,hq]
  rintro ⟨_,hl⟩
  rw [aF,ak,ak] at hl
  exact .inr ⟨_,Ue (by omega) e⟩
 simp only [aP,hop,ha,hn,hx,Xv]
 refine ⟨rfl,h2,by rw [iD,List.length_map,aF,ak];exact h1,?_,?_⟩
 ·rw [iD,List.length_map,aF,ak,← h1];exact hle
 ·rw [hb];exact hk
theorem PN {t:TypeId} {a x:Operand} {n:Name} {off m:Nat} {u:Ty} {i:E} {inn:Nat} {v:SV} {bs:Bs} {y' : Sy} (hop:o.op = .store t a x) (ha:ah env (.aptr n off m u i inn) (s.get a)) (hv:ah env v (s.get x)) (h:Fv P y o.dst t n off m u i inn v=some (bs,y')) (hI:Inst env y s)
  (hb:iP CS bs env fun e=>∀ s',Inst e y' s' → k s'):aP P S p o s k:=by
 unfold Fv at h
 split at h
 ·rename_i w e
  simp only [ah] at hv ha
  obtain ⟨ev,hev,hx⟩:=hv
  obtain ⟨kk,j,hi,hj0,hjm,hap⟩:=ha
  split at h
  ·rename_i b xx hbx
   obtain ⟨c',g1,g2⟩:=(hI.bx.look (n:=n)).1 hbx
   simp only [ah] at g2
   obtain ⟨c,hc,rfl⟩:=g2
   split at h
   ·rename_i z hz
    obtain ⟨f,f1,f2,f3,f4⟩:=Ia hz hc
    simp only at h
    split at h
    ·rename_i hcond
     obtain ⟨c1,c2,c3,c4⟩:=hcond
     have hle:j.toNat * u.size+u.size≤m * u.size:=by
      have:=Nat.mul_le_mul_right u.size (show j.toNat+1≤m from hjm)
      rw [Nat.add_mul,Nat.one_mul] at this;exact this
     split at h
     ·rename_i hw
      obtain ⟨hinn,hwu⟩:=hw
      subst hinn;subst hwu
      split at h
      ·rename_i hwhole
       obtain ⟨hoff,hbarr⟩:=hwhole
       subst hoff;subst hbarr
       cases h
       obtain ⟨g,r1,r2,r3⟩:=bQ hI.len hb
       obtain ⟨a',b',d',r,cc,x1,x2,x3,x4,x5,x6⟩:=r1
       rw [f1] at x1;cases x1
       rw [hi] at x2;cases x2
       rw [hev] at x3;cases x3
       simp only [LZ,dif_pos,Option.some.injEq] at x4
       subst x4
       simp only at x5
       rw [dif_pos ⟨hj0,hjm⟩] at x5
       cases x5;cases x6
       have hfc:enc (.arr m w) f=enc (.arr m w) c:=by rw [f3,List.drop_zero,List.take_of_length_le (by rw [ak];exact Nat.le_refl _)]
       refine uJ (b':=.arr m w) (c:=c) (q:=fun i=>if i=⟨j.toNat,hjm⟩ then ev else f i) hop hap hx g1 c1 c2 c3 c4 rfl (by simp only [Ty.size];omega) ?_ (r2 _ ?_)
       ·refine CX (off:=0) (inn:=0) (c:=c) hjm f3 f2 (by omega) (x':=ev) ?_ ?_
        ·rw [jd (by rw [ak,ak])]
        ·rw [jd (by rw [ak,ak])]
       ·have h3:=hI.snoc (⟨.arr m w,fun i=>if i=⟨j.toNat,hjm⟩ then ev else f i⟩:Val)
        have h4:Inst (env++[⟨.arr m w,fun i=>if i=⟨j.toNat,hjm⟩ then ev else f i⟩]) { (y.more [.arr m w]) with bx:=cO n (.e (.arr m w) (.var y.g.length)) y.bx } { s with bx:=cO n (.d (bD (.arr m w) fun i=>if i=⟨j.toNat,hjm⟩ then ev else f i)) s.bx } :=
         ⟨h3.g,h3.rd,h3.n,h3.ts,h3.sv,h3.bx.cO (by simp only [ah];exact ⟨_,r3,rfl⟩),h3.lp,h3.ow,h3.vc⟩
        exact h4.put o.dst rfl
      ·split at h
       ·rename_i b1 hb1
        cases h
        obtain ⟨g,r1,r2,r3⟩:=bQ hI.len hb
        obtain ⟨a',b',d',r,cc,x1,x2,x3,x4,x5,x6⟩:=r1
        rw [f1] at x1;cases x1
        rw [hi] at x2;cases x2
        rw [hev] at x3;cases x3
        simp only [LZ,dif_pos,Option.some.injEq] at x4
        subst x4
        simp only at x5
        rw [dif_pos ⟨hj0,hjm⟩] at x5
        cases x5;cases x6
        obtain ⟨F,u1,u2⟩:=Hw hb1 (E.dh _ hc) r3
        obtain ⟨p1,p2,p3,p4⟩:=jF _ _ _ _ _ (show vw b (.arr m w) off=some ⟨b1,F⟩ from u1)
        refine uJ (b':=b1) (c:=c) (q:=F c fun i=>if i=⟨j.toNat,hjm⟩ then ev else f i) hop hap hx g1 c1 c2 c3 c4 (by rw [p3,c3]) (by simp only [Ty.size] at p1;omega) ?_ (r2 _ ?_)
        ·exact CX (off:=off) (inn:=0) (c:=c) hjm f3 f2 (by omega) (x':=ev) (by rw [jd (by rw [ak,ak])]) (p4 _ _)
        ·have h3:=hI.snoc (⟨.arr m w,fun i=>if i=⟨j.toNat,hjm⟩ then ev else f i⟩:Val)
         have h4:Inst (env++[⟨.arr m w,fun i=>if i=⟨j.toNat,hjm⟩ then ev else f i⟩]) { (y.more [.arr m w]) with bx:=cO n (.e b1 (.p2 (.upd off) xx (.var y.g.length))) y.bx } { s with bx:=cO n (.d (bD b1 (F c fun i=>if i=⟨j.toNat,hjm⟩ then ev else f i))) s.bx } :=
          ⟨h3.g,h3.rd,h3.n,h3.ts,h3.sv,h3.bx.cO (by simp only [ah];exact ⟨_,u2,rfl⟩),h3.lp,h3.ow,h3.vc⟩
         exact h4.put o.dst rfl
       ·cases h
     ·split at h
      ·rename_i u' hu'
       split at h
       ·rename_i huu
        subst huu
        split at h
        ·rename_i b1 q1 hb1
         cases h
         simp only [iP] at hb
         obtain ⟨v1,v2,⟨a1,b2,r',cc,x1,x2,x3,x4,x5⟩,v3,v4,⟨a2,b3,d2,r2,cc2,z1,z2,z3,z4,z5,z6⟩,hk⟩:=hb
         rw [f1] at x1;cases x1
         rw [hi] at x2;cases x2
         simp only [CB,Option.some.injEq] at x3
         subst x3
         simp only at x4
         rw [dif_pos ⟨hj0,hjm⟩] at x4
         cases x4;subst x5
         rw [E.dh _ f1] at z1;cases z1
         rw [E.dh _ hi] at z2;cases z2
         have hel:(E.var y.g.length).val (env++[⟨u',f ⟨j.toNat,hjm⟩⟩])=some ⟨u',f ⟨j.toNat,hjm⟩⟩:=qh hI.len
         obtain ⟨F,u1,u2⟩:=Hw hu' hel (E.dh _ hev)
         rw [u2] at z3;cases z3
         simp only [LZ,dif_pos,Option.some.injEq] at z4
         subst z4
         simp only at z5
         rw [dif_pos ⟨hj0,hjm⟩] at z5
         cases z5;subst z6
         obtain ⟨p1,p2,p3,p4⟩:=jF _ _ _ _ _ (show vw u' w inn=some ⟨u',F⟩ from u1)
         have hl2:(env++[(⟨u',f ⟨j.toNat,hjm⟩⟩:Val)]).length=y.g.length+1:=by rw [List.length_append,hI.len];rfl
         have hlast:=qh (v:=(⟨.arr m u',fun (i:Fin m)=>if i=⟨j.toNat,hjm⟩ then F (f ⟨j.toNat,hjm⟩) ev else f i⟩:Val)) hl2
         have hc2:=E.dh [(⟨.arr m u',fun (i:Fin m)=>if i=⟨j.toNat,hjm⟩ then F (f ⟨j.toNat,hjm⟩) ev else f i⟩:Val)] (E.dh [(⟨u',f ⟨j.toNat,hjm⟩⟩:Val)] hc)
         have fin:∀ (q:b1.den),q1.val (env++[(⟨u',f ⟨j.toNat,hjm⟩⟩:Val)]++[(⟨.arr m u',fun (i:Fin m)=>if i=⟨j.toNat,hjm⟩ then F (f ⟨j.toNat,hjm⟩) ev else f i⟩:Val)])=some ⟨b1,q⟩→b1.ag=some true →
           enc b1 q=over (enc b c) (enc (.arr m u') fun i=>if i=⟨j.toNat,hjm⟩ then F (f ⟨j.toNat,hjm⟩) ev else f i) off→aP P S p o s k:=by
          intro q e1 e2 e3
          refine uJ (b':=b1) (c:=c) (q:=q) hop hap hx g1 c1 c2 c3 c4 e2 (by omega) (CX (off:=off) (inn:=inn) (c:=c) hjm f3 f2 p1 (p4 _ _) e3) (hk _ ?_)
          have h3:=(hI.snoc (⟨u',f ⟨j.toNat,hjm⟩⟩:Val)).snoc (⟨.arr m u',fun (i:Fin m)=>if i=⟨j.toNat,hjm⟩ then F (f ⟨j.toNat,hjm⟩) ev else f i⟩:Val)
          have h4:Inst (env++[(⟨u',f ⟨j.toNat,hjm⟩⟩:Val)]++[(⟨.arr m u',fun (i:Fin m)=>if i=⟨j.toNat,hjm⟩ then F (f ⟨j.toNat,hjm⟩) ev else f i⟩:Val)]) { (y.more [u',.arr m u']) with bx:=cO n (.e b1 q1) y.bx } { s with bx:=cO n (.d (bD b1 q)) s.bx } :=
           ⟨by have:=h3.g;simp only [Sy.more,List.append_assoc] at this ⊢; exact this,h3.rd,h3.n,h3.ts,h3.sv,h3.bx.cO (by simp only [ah];exact ⟨_,e1,rfl⟩),h3.lp,h3.ow,h3.vc⟩
          exact h4.put o.dst rfl
         split at hb1
         ·rename_i hwhole
          obtain ⟨hoff,hbarr⟩:=hwhole
          subst hoff;subst hbarr
          cases hb1
          exact fin _ hlast rfl (by rw [jd (by rw [ak,ak])])
         ·obtain ⟨b1',hb1',he⟩:=Option.map_eq_some_iff.1 hb1
          cases he
          obtain ⟨G,t1,t2⟩:=Hw hb1' hc2 hlast
          obtain ⟨s1,s2,s3,s4⟩:=jF _ _ _ _ _ (show vw b (.arr m u') off=some ⟨b1,G⟩ from t1)
          exact fin _ t2 (by rw [s3,c3]) (s4 _ _)
        ·cases h
       ·cases h
      ·cases h
    ·cases h
   ·cases h
  ·cases h
 ·cases h
end
end Go.Tx
namespace Go.Tx
open Go Go.Ab
def PO:Ty→Bool
 | .int _ | .bool | .str | .cst _=>true
 | _=>false
def yu (P:Program) (p:Name) (y:Sy) (dst:Option Tmp) (t u:TypeId) (a b:SV):Option (Bs×Sy) :=
 match fJ P t with
 | some e=>match asS (tyD P u) b with
  | some (w,ye)=>if fJ P u=some e∧tsz P e≠0∧isCells (bV P e)=true∧(bV P e).cells.length=tsz P e∧w.size=tsz P e∧fC P e≠0 then
    (match a with
    | .own i sz w' xe=>if y.ow.contains i=true∧sz=tsz P e∧w=w' then
      some ([(.r2 (.app (fC P e)) xe ye,.sl w)],({ ((y.strip i).more [.sl w]) with ow:=i::(y.strip i).ow }:Sy).put dst (.own i sz w (.var y.g.length))) else none
    | .nil=>some ([(.r2 (.app (fC P e)) (.zero (.sl w)) ye,.sl w)],({ ((y.strip (dst.getD 0::p)).more [.sl w]) with ow:=(dst.getD 0::p)::(y.strip (dst.getD 0::p)).ow }:Sy).put dst (.own (dst.getD 0::p) (tsz P e) w (.var y.g.length)))
    | _=>none) else none
  | none=>none
 | none=>none
def stOp (P:Program) (p:Name) (y:Sy) (o:Oper):Option (Bs×Sy) :=
 let d:=o.dst.getD 0
 match o.op with
 | .assign x=>match y.get x with
  | some v=>match y.claim (d::p) (esz P o.type) (etD P o.type) v with
   | some (v',y')=>some ([],y'.put o.dst v')
   | none=>none
  | none=>none
 | .alloc t=>match JH P t with
  | some z=>if xP z=some (tsz P t) then newS y d p o.dst (esz P t) (etD P t) z else none
  | none=>none
 | .box t x=>match y.get x with
  | some v=>if (xP (ND (tyD P t) v)).isSome=true then newS y d p o.dst (esz P t) (etD P t) (ND (tyD P t) v) else none
  | none=>none
 | .store t a x=>match y.get a,y.get x with
  | some (.ptr n off),some v=>Fq P y o.dst t n off (ND (tyD P t) v)
  | some (.aptr n off m u i inn),some v=>Fv P y o.dst t n off m u i inn (ND (tyD P t) v)
  | _,_=>none
 | .buildSlice t 0 parts=>match fJ P t with
  | some e=>if tsz P e≠0∧isCells (bV P e)=true∧parts = #[] then (match y.claim (d::p) (some (tsz P e)) (tyD P e) .nil with
   | some (v',y')=>some ([],y'.put o.dst v')
   | none=>none) else none
  | none=>none
 | .makeMap t none=>match BF P t,NM P t with
  | some kd,some et=>match tyD P et with
   | some w=>if y.refs (d::p)=false∧isNone' (aj (d::p) y.bx)=true then some ([],({ y with bx:=(d::p,.mpc kd w (.zero (.mp kd w)))::y.bx }:Sy).put o.dst (.mref (d::p))) else none
   | none=>none
  | _,_=>none
 | .mapUpdate t m ky x=>match BF P t,y.get m,y.get ky,y.get x with
  | some kd,some (.mref n),some (.e (.int kd2) a),some (.e w c)=>match aj n y.bx with
   | some (.mpc kd' u l)=>if kd' = kd∧kd2=kd∧w=u∧PO w=true then
     some ([],({ y with bx:=cO n (.mpc kd u (.p2 .mput l (.p2 .pair a c))) y.bx }:Sy).put o.dst .dead) else none
   | _=>none
  | _,_,_,_=>none
 | .call c=>match c.callee with
  | .builtin .append=>match c.args.toList,c.argTypes.toList with
   | [x,z],t::u::_=>match y.get x,y.get z with
    | some a,some b=>yu P p y o.dst t u a b
    | _,_=>none
   | _,_=>none
  | _=>none
 | _=>none
section
variable {P:Program} {S:tV} {CS:Calls'} {env:List Val} {y:Sy} {s:Sa} {p:Name} {o:Oper} {k:Sa→Prop} {tb:Tab}
theorem JI {t:Ty} (a:Int) {x:t.den} {c:Value} (hc:Vy t x=some c):∀ {l:List (Int×t.den)} {kvs:List (Int×Value)},l.map (fun y=>(y.1,Vy t y.2))=kvs.map (fun y=>(y.1,some y.2)) →
  (jV l a x).map (fun y=>(y.1,Vy t y.2))=(qy a c kvs).map (fun y=>(y.1,some y.2))
 | [],[],_=>by simp [jV,qy,hc]
 | [],_::_,h=>by simp at h
 | _::_,[],h=>by simp at h
 | (b,z)::l,(b',d)::kvs,h=>by
  simp only [List.map_cons,List.cons.injEq,Prod.mk.injEq] at h
  obtain ⟨⟨h1,h2⟩,h3⟩:=h
  subst h1
  simp only [jV,qy]
  split
  ·simp only [List.map_cons,hc,h3]
  ·simp only [List.map_cons,h2,JI a hc h3]
theorem PS {w:Ty} (h:PO w=true) (x:w.den):∃ c,Vy w x=some c:=by
 cases w <;> simp [PO] at h <;> exact ⟨_,rfl⟩
theorem MF {c:Call} {x z:Operand} {t u:TypeId} {ts:List TypeId} {a b:SV} {bs:Bs} {y' : Sy} (hop:o.op = .call c) (hc:c.callee = .builtin .append) (hx:c.args.toList=[x,z]) (ht:c.argTypes.toList=t::u::ts)
  (ha:ah env a (s.get x)) (hz:ah env b (s.get z)) (h:yu P p y o.dst t u a b=some (bs,y')) (hI:Inst env y s) (hb:iP CS bs env fun e=>∀ s',Inst e y' s' → k s'):aP P S p o s k:=by
 unfold yu at h
 split at h
 ·rename_i e he
  split at h
  ·rename_i w ye hy
   obtain ⟨ys,e1,e2⟩:=vG hy hz
   split at h
   ·rename_i hcond
    obtain ⟨c1,c2,c3,c4,c5,c6⟩:=hcond
    have hall:∀ d∈ys.map (bD w),d.cells.length=tsz P e:=fun d hd=>by
     obtain ⟨q,_,rfl⟩:=List.mem_map.1 hd
     rw [aF,ak];exact c5
    split at h
    ·rename_i i sz w' xe
     split at h
     ·rename_i hh
      obtain ⟨h1,h2,h3⟩:=hh
      subst h3
      cases h
      simp only [ah] at ha
      obtain ⟨xs,g1,g2,g3⟩:=ha
      obtain ⟨r,r1,r2,r3⟩:=bQ hI.len hb
      obtain ⟨a',b',rr,cc,x1,x2,x3,x4,x5⟩:=r1
      rw [g1] at x1;cases x1
      rw [e1] at x2;cases x2
      simp only [CB,dif_pos,if_pos c6,Option.some.injEq] at x3
      subst x3
      simp only at x4
      split at x4
      ·rename_i hle
       cases x4;cases x5
       simp only [aP,hop,hc,hx,ht,List.map_cons,List.map_nil,he,e2,g3]
       have hlen:xs.length+ys.length≤9223372036854775807:=by
        have:=Nat.le_mul_of_pos_right (xs.length+ys.length) (Nat.pos_of_ne_zero c6)
        omega
       refine ⟨c1,c2,c3,c4,hall,by rw [hI.ow];exact List.contains_iff_mem.1 h1,h2,by rw [List.length_map,List.length_map];exact hle,by rw [List.length_map,List.length_map];exact hlen,r2 _ ?_⟩
       have h4:=(hI.strip i).snoc (⟨.sl w,xs++ys⟩:Val)
       have h5:Inst (env++[⟨.sl w,xs++ys⟩]) { ((y.strip i).more [.sl w]) with ow:=i::(y.strip i).ow } { s.strip i with ow:=i::(s.strip i).ow } :=
        ⟨h4.g,h4.rd,h4.n,h4.ts,h4.sv,h4.bx,h4.lp,by have:=h4.ow;simp only [Sy.more] at this;simp only [this],h4.vc⟩
       refine h5.put o.dst ?_
       simp only [ah]
       exact ⟨xs++ys,r3,g2,by rw [List.map_append]⟩
      ·cases x4
     ·cases h
    ·cases h
     simp only [ah] at ha
     obtain ⟨r,r1,r2,r3⟩:=bQ hI.len hb
     obtain ⟨a',b',rr,cc,x1,x2,x3,x4,x5⟩:=r1
     cases x1
     rw [e1] at x2;cases x2
     simp only [CB,dif_pos,if_pos c6,Option.some.injEq] at x3
     subst x3
     simp only at x4
     split at x4
     ·rename_i hle
      cases x4;cases x5
      simp only [Ty.zero,List.length_nil,Nat.zero_add] at hle
      simp only [aP,hop,hc,hx,ht,List.map_cons,List.map_nil,he,e2,ha]
      have hlen:ys.length≤9223372036854775807:=by
       have:=Nat.le_mul_of_pos_right ys.length (Nat.pos_of_ne_zero c6)
       omega
      refine ⟨c1,c2,c3,c4,hall,by rw [List.length_map];exact hle,by rw [List.length_map];exact hlen,r2 _ ?_⟩
      have h4:=(hI.strip (o.dst.getD 0::p)).snoc (⟨.sl w,(Ty.sl w).zero++ys⟩:Val)
      have h5:Inst (env++[⟨.sl w,(Ty.sl w).zero++ys⟩]) { ((y.strip (o.dst.getD 0::p)).more [.sl w]) with ow:=(o.dst.getD 0::p)::(y.strip (o.dst.getD 0::p)).ow } { s.strip (o.dst.getD 0::p) with ow:=(o.dst.getD 0::p)::(s.strip (o.dst.getD 0::p)).ow } :=
       ⟨h4.g,h4.rd,h4.n,h4.ts,h4.sv,h4.bx,h4.lp,by have:=h4.ow;simp only [Sy.more] at this;simp only [this],h4.vc⟩
      refine h5.put o.dst ?_
      simp only [ah]
      exact ⟨_,r3,c5,rfl⟩
     ·cases x4
    ·cases h
   ·cases h
  ·cases h
 ·cases h
theorem Xw (hI:Inst env y s) {bs:Bs} {y' : Sy} (h:stOp P p y o=some (bs,y')) (hb:iP CS bs env fun e=>∀ s',Inst e y' s' → k s'):aP P S p o s k:=by
 unfold stOp at h
 simp only at h
 split at h
 ·rename_i x hop
  split at h
  ·rename_i v hv
   split at h
   ·rename_i v' y1 hc
    cases h
    obtain ⟨h1,h2⟩:=hI.claim (hI.get hv) hc
    simp only [aP,hop]
    exact hb _ (h2.put o.dst h1)
   ·cases h
  ·cases h
 ·rename_i t hop
  split at h
  ·rename_i z hz
   split at h
   ·rename_i hs
    have hv:=yh (env:=env) hz
    obtain ⟨h1,h2,h3⟩:=PK h hI hv hb
    obtain ⟨q1,q2⟩:=jf hs hv
    simp only [aP,hop]
    exact ⟨q1,q2,h1,h2,h3⟩
   ·cases h
  ·cases h
 ·rename_i t x hop
  split at h
  ·rename_i v hv
   split at h
   ·rename_i hs
    have hv':=uI (w:=tyD P t) (hI.get hv)
    obtain ⟨n,hn⟩:=Option.isSome_iff_exists.1 hs
    obtain ⟨h1,h2,h3⟩:=PK h hI hv' hb
    simp only [aP,hop]
    exact ⟨(jf hn hv').2,h1,h2,h3⟩
   ·cases h
  ·cases h
 ·rename_i t a x hop
  split at h
  ·rename_i n off v h1 h2
   have ha:=hI.get h1
   simp only [ah] at ha
   exact PL hop ha (uI (hI.get h2)) h hI hb
  ·rename_i n off m u i inn v h1 h2
   exact PN hop (hI.get h1) (uI (hI.get h2)) h hI hb
  ·cases h
 ·rename_i t parts hop
  split at h
  ·rename_i e he
   split at h
   ·rename_i hh
    split at h
    ·rename_i v' y1 hc
     cases h
     obtain ⟨h1,h2⟩:=hI.claim (show ah env .nil .nil from rfl) hc
     obtain ⟨c1,c2,c3⟩:=hh
     subst c3
     simp only [aP,hop,he]
     refine ⟨c1,c2,by omega,rfl,?_⟩
     simp only [List.map_nil,eX,List.not_mem_nil,false_implies,implies_true,true_and,if_true]
     exact hb _ (h2.put o.dst h1)
    ·cases h
   ·cases h
  ·cases h
 ·rename_i t hop
  split at h
  ·rename_i kd et hk he
   split at h
   ·rename_i w hw
    split at h
    ·rename_i hh
     cases h
     simp only [aP,hop,hk]
     refine ⟨hI.refs hh.1,(hI.bx.look).2 (yj hh.2),hb _ ?_⟩
     have h3:Inst env { y with bx:=(o.dst.getD 0::p,.mpc kd w (.zero (.mp kd w)))::y.bx } { s with bx:=(o.dst.getD 0::p,.mpc kd [])::s.bx } :=
      ⟨hI.g,hI.rd,hI.n,hI.ts,hI.sv,⟨_,_,rfl,by simp only [ah];exact ⟨[],[],rfl,rfl,rfl⟩,hI.bx⟩,hI.lp,hI.ow,hI.vc⟩
     exact h3.put o.dst rfl
    ·cases h
   ·cases h
  ·cases h
 ·rename_i t m ky x hop
  split at h
  ·rename_i kd n kd2 a w c hk h1 h2 h3
   split at h
   ·rename_i kd' u l hl
    split at h
    ·rename_i hh
     obtain ⟨rfl,rfl,rfl,c4⟩:=hh
     cases h
     have i1:=hI.get h1
     have i2:=hI.get h2
     have i3:=hI.get h3
     simp only [ah] at i1 i2 i3
     obtain ⟨av,e2,e3⟩:=i2
     obtain ⟨cv,e4,e5⟩:=i3
     obtain ⟨b,g1,g2⟩:=(hI.bx.look (n:=n)).1 hl
     simp only [ah] at g2
     obtain ⟨lv,kvs,e6,rfl,e7⟩:=g2
     obtain ⟨cc,hcc⟩:=PS c4 cv
     have hcd:=Jz hcc
     simp only [aP,hop,hk,i1,g1,e3,e5,iE,hcd]
     refine ⟨trivial,trivial,hb _ ?_⟩
     have h3:Inst env { y with bx:=cO n (.mpc kd2 w (.p2 .mput l (.p2 .pair a c))) y.bx } { s with bx:=cO n (.mpc kd2 (qy av cc kvs)) s.bx } :=
      ⟨hI.g,hI.rd,hI.n,hI.ts,hI.sv,hI.bx.cO (by
       simp only [ah]
       refine ⟨jV lv av cv,_,?_,rfl,JI av hcc e7⟩
       simp [E.val,Jw,e6,e2,e4,lX]),hI.lp,hI.ow,hI.vc⟩
     exact h3.put o.dst rfl
    ·cases h
   ·cases h
  ·cases h
 ·rename_i c hop
  split at h
  ·rename_i hc
   split at h
   ·rename_i x z t u ts hx ht
    split at h
    ·rename_i a b h1 h2
     exact MF hop hc hx ht (hI.get h1) (hI.get h2) h hI hb
    ·cases h
   ·cases h
  ·cases h
 ·cases h
end
end Go.Tx
namespace Go.Tx
open Go Go.Ab
theorem CY {u:Ty}:∀ (a:List u.den),bg (a.map (bD u))=a.flatMap (enc u)
 | []=>rfl
 | x::a=>by simp only [bg,List.map_cons,List.flatMap_cons,aF];congr 1;exact CY a
theorem yw {u:Ty}:∀ (a:List u.den),(a.flatMap (enc u)).length=a.length * u.size
 | []=>by simp
 | x::a=>by rw [List.flatMap_cons,List.length_append,yw a,ak,List.length_cons,Nat.succ_mul,Nat.add_comm]
theorem Xx {u:Ty} (a:List u.den) {j:Nat} (hj:j<a.length) (inn:Nat) (hi:inn≤u.size):((enc u a[j]).drop inn) <+: (bg (a.map (bD u))).drop (j * u.size+inn):=by
 have e:a=a.take j++(a[j]::a.drop (j+1)):=by rw [List.getElem_cons_drop,List.take_append_drop]
 rw [CY]
 have e2:a.flatMap (enc u)=(a.take j).flatMap (enc u)++(enc u a[j]++(a.drop (j+1)).flatMap (enc u)):=by
  conv=>lhs;rw [e]
  rw [List.flatMap_append,List.flatMap_cons]
 rw [e2]
 have hl:((a.take j).flatMap (enc u)).length=j * u.size:=by rw [yw,List.length_take,Nat.min_eq_left (by omega)]
 have hd:((a.take j).flatMap (enc u)).drop (j * u.size+inn)=[]:=List.drop_eq_nil_of_le (by rw [hl];exact Nat.le_add_right _ _)
 rw [List.drop_append,hd,List.nil_append,hl,Nat.add_sub_cancel_left,List.drop_append_of_le_length (by rw [ak];exact hi)]
 exact List.prefix_append _ _
def abO (P:Program) (t:TypeId):Bool:=(fJ P t).isSome
def Uf (P:Program) (y:Sy) (g:Operand→Option SV) (op:Op):Option (Bs×SV) :=
 match op with
 | .nilCheck x=>match g x with
  | some (.vpt n u i inn)=>some ([],.vpt n u i inn)
  | _=>none
 | .fieldAddr t x i=>match rE P t i,g x with
  | some (off,ft),some (.vpt n u j inn)=>if tsz P ft≠0 then some ([],.vpt n u j (inn+off)) else none
  | _,_=>none
 | .indexAddr t x ix=>match fJ P t,g x,(g ix).bind asI with
  | some e,some (.vsl n),some (q,i)=>match aj n y.vc with
   | some (u,l)=>if tsz P e≠0∧u.size=tsz P e then some ([(.r2 .idx l i,u)],.vpt n u i 0) else none
   | none=>none
  | _,_,_=>none
 | .load t x=>match zX P t,g x with
  | some ag,some (.vpt n u i inn)=>match aj n y.vc with
   | some (u',l)=>if u' = u∧(ag=false→tsz P t≠0)∧inn≤u.size then (match xO ag (tyD P t) inn (tsz P t) u (.var y.g.length) with
    | some (v,e)=>some ([(.r2 .idx l i,u)],.e v e)
    | none=>none) else none
   | none=>none
  | _,_=>none
 | _=>none
def PU (P:Program) (p:Name) (y:Sy) (o:Oper):Option (Bs×Sy) :=
 let nv:=y.g.length
 match Uf P y y.get o.op with
 | some (bs,z)=>some (bs,(y.more (bs.map (·.2))).put o.dst z)
 | none=>match o.op with
 | .store t a x=>match y.get a,y.get x with
  | some (.vpt n u i inn),some v=>match aj n y.vc,asE (tyD P t) (ND (tyD P t) v) with
   | some (u',l),some (w,e)=>if u' = u∧w.size=tsz P t∧tsz P t≠0∧inn+w.size≤u.size∧(xP (ND (tyD P t) v)).isSome=true then
     (if w=u∧inn=0 then some ([(.r3 .lset l i e,.sl u)],({ y.more [.sl u] with vc:=cO n (u,.var nv) y.vc }:Sy).put o.dst .dead)
     else if u.ag=some true∧(inn≠0∨w.size≠u.size)∧ty2 (.upd inn) u w=some u then some ([(.r2 .idx l i,u),(.r3 .lset l i (.p2 (.upd inn) (.var nv) e),.sl u)],({ y.more [u,.sl u] with vc:=cO n (u,.var (nv+1)) y.vc }:Sy).put o.dst .dead)
     else none) else none
   | _,_=>none
  | _,_=>none
 | .call c=>match c.callee with
  | .builtin .len=>match c.args.toList,c.argTypes.toList with
   | [x],t::_=>match y.get x with
    | some (.vsl n)=>match aj n y.vc with
     | some (_,l)=>if abO P t=true then some ([],y.put o.dst (.e (.int .i64) (.p1 .len l))) else none
     | none=>none
    | _=>none
   | _,_=>none
  | .builtin .append=>match c.args.toList,c.argTypes.toList with
   | [x,z],t::u::_=>match y.get x,y.get z with
    | some (.vsl n),some b=>match aj n y.vc,fJ P t,asS (tyD P u) b with
     | some (w',l),some e,some (w,ye)=>if fJ P u=some e∧tsz P e≠0∧isCells (bV P e)=true∧(bV P e).cells.length=tsz P e∧w.size=tsz P e∧fC P e≠0∧w=w' then
       some ([(.r2 (.app (fC P e)) l ye,.sl w)],({ ((y.strip n).more [.sl w]) with ow:=n::(y.strip n).ow,vc:=(n,(w,.var nv))::(y.strip n).vc }:Sy).put o.dst (.vsl n)) else none
     | _,_,_=>none
    | _,_=>none
   | _,_=>none
  | _=>none
 | _=>none
section
variable {P:Program} {S:tV} {CS:Calls'} {env:List Val} {y:Sy} {s:Sa} {p:Name} {o:Oper} {k:Sa→Prop}
theorem FB {u:Ty} (a:List u.den) (j:Nat) (hj:j<a.length) (b:u.den) (hz:u.size≠0):zY u.size (j * u.size+0) (bD u b) (a.map (bD u))=(a.set j b).map (bD u):=by
 have h1:(j * u.size+0) / u.size=j:=by rw [Nat.add_zero,Nat.mul_div_cancel _ (Nat.pos_of_ne_zero hz)]
 have h2:(j * u.size+0) % u.size=0:=by rw [Nat.add_zero,Nat.mul_mod_left]
 unfold zY
 rw [h1,h2,List.getElem?_map,List.getElem?_eq_getElem hj]
 simp only [Option.map_some]
 rw [if_pos ⟨trivial,by rw [aF,aF,ak,ak]⟩,List.map_set]
theorem Ug {u w:Ty} (a:List u.den) (j:Nat) (hj:j<a.length) {inn:Nat} (b:w.den) (c:u.den) (hag:u.ag=some true) (hin:inn+w.size≤u.size) (hne:inn≠0∨w.size≠u.size) (hw:w.size≠0) (hc:enc u c=over (enc u a[j]) (enc w b) inn) :
  zY u.size (j * u.size+inn) (bD w b) (a.map (bD u))=(a.set j c).map (bD u):=by
 have hz:0<u.size:=by omega
 have h1:(j * u.size+inn) / u.size=j:=by rw [Nat.mul_comm,Nat.mul_add_div hz,Nat.div_eq_of_lt (by omega),Nat.add_zero]
 have h2:(j * u.size+inn) % u.size=inn:=by rw [Nat.mul_comm,Nat.mul_add_mod,Nat.mod_eq_of_lt (by omega)]
 unfold zY
 rw [h1,h2,List.getElem?_map,List.getElem?_eq_getElem hj]
 simp only [Option.map_some]
 rw [if_neg (by rw [aF,aF,ak,ak];omega),List.map_set]
 congr 1
 rw [aF,aF,bY hag c,hc]
 rfl
theorem JJ {g:Operand→Option SV} {bs:Bs} {z:SV} (hg:∀ o x,g o=some x→ah env x (s.get o)) (hI:Inst env y s) (h:Uf P y g o.op=some (bs,z)) (hb:iP CS bs env (Nx o s k z)):aP P S p o s k:=by
 unfold Uf at h
 split at h
 ·rename_i x hop
  split at h
  ·rename_i n u i inn hx
   cases h
   have hv:=hg _ _ hx
   simp only [ah] at hv
   obtain ⟨q,j,h1,h2,h3⟩:=hv
   simp only [aP,hop,h3]
   exact hb _ (by simp only [ah];exact ⟨q,j,h1,h2,rfl⟩)
  ·cases h
 ·rename_i t x i hop
  split at h
  ·rename_i off ft n u e inn hf hx
   split at h
   ·rename_i hz
    cases h
    have hv:=hg _ _ hx
    simp only [ah] at hv
    obtain ⟨q,j,h1,h2,h3⟩:=hv
    simp only [aP,hop,hf,h3]
    exact ⟨hz,hb _ (by simp only [ah];exact ⟨q,j,h1,h2,by rw [Nat.add_assoc]⟩)⟩
   ·cases h
  ·cases h
 ·rename_i t x ix hop
  split at h
  ·rename_i e n q i he hx hix
   split at h
   ·rename_i u l hl
    split at h
    ·rename_i hc
     cases h
     have hv:=hg _ _ hx
     simp only [ah] at hv
     obtain ⟨z,hz1,hz2⟩:=Option.bind_eq_some_iff.1 hix
     obtain ⟨j,g1,g2⟩:=nH hz2 (hg _ _ hz1)
     obtain ⟨a,e1,e2⟩:=(hI.vc.look).1 hl
     obtain ⟨c,r1,r2,r3⟩:=bQ hI.len hb
     obtain ⟨a',b',r,c',x1,x2,x3,x4,x5⟩:=r1
     rw [e1] at x1;cases x1
     rw [g1] at x2;cases x2
     simp only [CB,Option.some.injEq] at x3
     subst x3
     simp only at x4
     split at x4
     ·rename_i hn
      cases x5
      obtain ⟨hlt,hget⟩:=List.getElem?_eq_some_iff.1 x4
      simp only [aP,hop,g2,kH,he,hv,sliceOf,e2]
      refine ⟨hc.1,hc.2,hn,by rw [List.length_map];omega,r2 _ ?_⟩
      simp only [ah]
      exact ⟨q,j,E.dh _ g1,hn,by rw [Nat.add_zero,hc.2]⟩
     ·cases x4
    ·cases h
   ·cases h
  ·cases h
 ·rename_i t x hop
  split at h
  ·rename_i ag n u i inn hag hx
   split at h
   ·rename_i u' l hl
    split at h
    ·rename_i hc
     obtain ⟨rfl,hz,hin⟩:=hc
     split at h
     ·rename_i v e hle
      cases h
      have hv:=hg _ _ hx
      simp only [ah] at hv
      obtain ⟨q,j,g1,g2,g3⟩:=hv
      obtain ⟨a,e1,e2⟩:=(hI.vc.look).1 hl
      obtain ⟨c,r1,r2,r3⟩:=bQ hI.len hb
      obtain ⟨a',b',r,c',x1,x2,x3,x4,x5⟩:=r1
      rw [e1] at x1;cases x1
      rw [g1] at x2;cases x2
      simp only [CB,Option.some.injEq] at x3
      subst x3
      simp only at x4
      rw [if_pos g2] at x4
      cases x5
      obtain ⟨hlt,hget⟩:=List.getElem?_eq_some_iff.1 x4
      subst hget
      have hp:=Xx a hlt inn hin
      obtain ⟨t1,t2⟩:=O1 hle r3 hp
      simp only [aP,hop,hag,g3,e2]
      exact ⟨hz,t2,r2 _ t1⟩
     ·cases h
    ·cases h
   ·cases h
  ·cases h
 ·cases h
theorem Uh {bs:Bs} {y' : Sy} (hI:Inst env y s) (hw:bW env) (h:PU P p y o=some (bs,y')) (hb:iP CS bs env fun e=>∀ s',Inst e y' s' → k s'):aP P S p o s k:=by
 unfold PU at h
 simp only at h
 split at h
 ·rename_i bs z hl
  cases h
  refine JJ (fun o x hx=>hI.get hx) hI hl (bJ ?_ (sO hb))
  rintro e ⟨⟨l,e1,e2⟩,hq⟩ v hv
  subst e1
  have h3:Inst (env++l) (y.more (bs.map (·.2))) s:=by rw [← e2];exact hI.app l
  exact hq _ (h3.put o.dst hv)
 rename_i hnl
 split at h
 ·rename_i t a x hop
  split at h
  ·rename_i n u i inn v ha hx
   split at h
   ·rename_i u' l w e hl has
    split at h
    ·rename_i hc
     obtain ⟨rfl,hws,htz,hin,hsz⟩:=hc
     have hv:=hI.get ha
     simp only [ah] at hv
     obtain ⟨q,j,g1,g2,g3⟩:=hv
     obtain ⟨al,e1,e2⟩:=(hI.vc.look).1 hl
     have hvv:=uI (w:=tyD P t) (hI.get hx)
     obtain ⟨b,f1,f2⟩:=qJ has hvv
     obtain ⟨nn,hnn⟩:=Option.isSome_iff_exists.1 hsz
     have hcells:=(jf hnn hvv).2
     have hdl:(bD w b).cells.length=tsz P t:=by rw [aF,ak];exact hws
     have hu0:u'.size≠0:=by omega
     have common:∀ (hlt:j.toNat<al.length) (xs' : List D),zY u'.size (j.toNat * u'.size+inn) (bD w b) (al.map (bD u'))=xs' → k ({ s with vc:=Ab.cO n (u'.size,xs') s.vc }.put o.dst .dead)→aP P S p o s k:=by
      intro hlt xs' hxs hk
      have d1:(j.toNat * u'.size+inn) / u'.size=j.toNat∨inn=u'.size:=by
       by_cases h:inn<u'.size
       ·left;rw [Nat.mul_comm,Nat.mul_add_div (by omega),Nat.div_eq_of_lt h,Nat.add_zero]
       ·right;omega
      have hin' : inn<u'.size:=by omega
      have d2:(j.toNat * u'.size+inn) / u'.size=j.toNat:=by
       rw [Nat.mul_comm,Nat.mul_add_div (by omega),Nat.div_eq_of_lt hin',Nat.add_zero]
      have d3:(j.toNat * u'.size+inn) % u'.size=inn:=by
       rw [Nat.mul_comm,Nat.mul_add_mod,Nat.mod_eq_of_lt hin']
      simp only [aP,hop,g3,e2,f2]
      refine ⟨htz,hcells,hdl,by rw [d3];omega,by rw [d2,List.length_map];exact hlt,?_⟩
      rw [hxs];exact hk
     split at h
     ·rename_i hwh
      obtain ⟨rfl,rfl⟩:=hwh
      cases h
      obtain ⟨c,r1,r2,r3⟩:=bQ hI.len hb
      obtain ⟨a',b',d',r,c',x1,x2,x3,x4,x5,x6⟩:=r1
      rw [e1] at x1;cases x1
      rw [g1] at x2;cases x2
      rw [f1] at x3;cases x3
      simp only [LZ,dif_pos,Option.some.injEq] at x4
      subst x4
      simp only at x5
      split at x5
      ·rename_i hlt
       cases x5;cases x6
       refine common hlt.2 _ (FB al j.toNat hlt.2 b hu0) (r2 _ ?_)
       have h4:=hI.snoc (⟨.sl w,al.set j.toNat b⟩:Val)
       have h5:Inst (env++[⟨.sl w,al.set j.toNat b⟩]) ({ y.more [.sl w] with vc:=Ab.cO n (w,.var y.g.length) y.vc }:Sy) ({ s with vc:=Ab.cO n (w.size,(al.set j.toNat b).map (bD w)) s.vc }:Sa) :=
        ⟨h4.g,h4.rd,h4.n,h4.ts,h4.sv,h4.bx,h4.lp,h4.ow,fB.set r3 h4.vc⟩
       exact h5.put o.dst rfl
      ·cases x5
     ·split at h
      ·rename_i hpt
       obtain ⟨hag,hne,hty⟩:=hpt
       cases h
       obtain ⟨v1,v2,v3,v4⟩:=hb
       obtain ⟨a',b',r,c',x1,x2,x3,x4,x5⟩:=v3
       rw [e1] at x1;cases x1
       rw [g1] at x2;cases x2
       simp only [CB,Option.some.injEq] at x3
       subst x3
       simp only at x4
       rw [if_pos g2] at x4
       cases x5
       obtain ⟨hlt,hget⟩:=List.getElem?_eq_some_iff.1 x4
       subst hget
       have hlen1:(env++[(⟨u',al[j.toNat]⟩:Val)]).length=y.g.length+1:=by rw [List.length_append,hI.len];rfl
       obtain ⟨c,r1,r2,r3⟩:=bQ hlen1 v4
       obtain ⟨a',b',d',r,c',x1,x2,x3,x4',x5',x6⟩:=r1
       rw [E.dh _ e1] at x1;cases x1
       rw [E.dh _ g1] at x2;cases x2
       have hlast:(E.var y.g.length).val (env++[(⟨u',al[j.toNat]⟩:Val)])=some ⟨u',al[j.toNat]⟩:=qh hI.len
       obtain ⟨ff,p1,p2⟩:=Hw (o:=.upd inn) hty hlast (E.dh [(⟨u',al[j.toNat]⟩:Val)] f1)
       rw [p2] at x3;cases x3
       simp only [LZ,dif_pos,Option.some.injEq] at x4'
       subst x4'
       simp only at x5'
       split at x5'
       ·cases x5'; cases x6
        have hup:vw u' w inn=some ⟨u',ff⟩:=p1
        obtain ⟨_,_,_,q4⟩:=jF _ _ _ _ _ hup
        refine common hlt _ (Ug al j.toNat hlt b (ff al[j.toNat] b) hag hin hne (by omega) (q4 _ _)) (r2 _ ?_)
        have h4:=(hI.snoc (⟨u',al[j.toNat]⟩:Val)).snoc (⟨.sl u',al.set j.toNat (ff al[j.toNat] b)⟩:Val)
        have h5:Inst (env++[(⟨u',al[j.toNat]⟩:Val)]++[⟨.sl u',al.set j.toNat (ff al[j.toNat] b)⟩]) ({ y.more [u',.sl u'] with vc:=Ab.cO n (u',.var (y.g.length+1)) y.vc }:Sy) ({ s with vc:=Ab.cO n (u'.size,(al.set j.toNat (ff al[j.toNat] b)).map (bD u')) s.vc }:Sa) :=
         ⟨by have:=h4.g;simpa [Sy.more] using this,h4.rd,h4.n,h4.ts,h4.sv,h4.bx,h4.lp,h4.ow,fB.set r3 h4.vc⟩
        exact h5.put o.dst rfl
       ·cases x5'
      ·cases h
    ·cases h
   ·cases h
  ·cases h
 ·rename_i c hop
  split at h
  ·rename_i hcl
   split at h
   ·rename_i x t ts hx ht
    split at h
    ·rename_i n hn
     split at h
     ·rename_i u l hl
      split at h
      ·rename_i ht2
       cases h
       have hv:=hI.get hn
       simp only [ah] at hv
       obtain ⟨a,e1,e2⟩:=(hI.vc.look).1 hl
       obtain ⟨e,he⟩:=Option.isSome_iff_exists.1 ht2
       have hu:=dB he
       simp only [aP,hop,hcl,hx,ht,List.map_cons,List.map_nil,hv,sliceOf,he,hu,e2]
       refine hb _ (hI.put o.dst ?_)
       simp only [ah]
       refine ⟨(a.length:Int),?_,by rw [List.length_map];rfl⟩
       simp [E.val,app1,e1,jU]
      ·cases h
     ·cases h
    ·cases h
   ·cases h
  ·rename_i hcl
   split at h
   ·rename_i x z t u ts hx ht
    split at h
    ·rename_i n b hn hz
     split at h
     ·rename_i w' l e w ye hl he has
      split at h
      ·rename_i hc
       obtain ⟨c1,c2,c3,c4,c5,c6,rfl⟩:=hc
       cases h
       have hv:=hI.get hn
       simp only [ah] at hv
       obtain ⟨a,e1,e2⟩:=(hI.vc.look).1 hl
       obtain ⟨ys,f1,f2⟩:=vG has (hI.get hz)
       obtain ⟨r,r1,r2,r3⟩:=bQ hI.len hb
       obtain ⟨a',b',rr,cc,x1,x2,x3,x4,x5⟩:=r1
       rw [e1] at x1;cases x1
       rw [f1] at x2;cases x2
       simp only [CB,dif_pos,if_pos c6,Option.some.injEq] at x3
       subst x3
       simp only at x4
       split at x4
       ·rename_i hle
        cases x4;cases x5
        have hall:∀ d∈ys.map (bD w),d.cells.length=tsz P e:=fun d hd=>by
         obtain ⟨q,_,rfl⟩:=List.mem_map.1 hd
         rw [aF,ak];exact c5
        have hlen:a.length+ys.length≤9223372036854775807:=by
         have:=Nat.le_mul_of_pos_right (a.length+ys.length) (Nat.pos_of_ne_zero c6)
         omega
        simp only [aP,hop,hcl,hx,ht,List.map_cons,List.map_nil,he,f2,hv,e2]
        refine ⟨c1,c2,c3,c4,hall,c5,by rw [List.length_map,List.length_map];exact hle,by rw [List.length_map,List.length_map];exact hlen,r2 _ ?_⟩
        have h4:=(hI.strip n).snoc (⟨.sl w,a++ys⟩:Val)
        have h5:Inst (env++[⟨.sl w,a++ys⟩]) ({ ((y.strip n).more [.sl w]) with ow:=n::(y.strip n).ow,vc:=(n,(w,.var y.g.length))::(y.strip n).vc }:Sy) ({ s.strip n with ow:=n::(s.strip n).ow,vc:=(n,(w.size,a.map (bD w)++ys.map (bD w)))::(s.strip n).vc }:Sa) :=
         ⟨h4.g,h4.rd,h4.n,h4.ts,h4.sv,h4.bx,h4.lp,by have:=h4.ow;simp only [Sy.more] at this;simp only [this],⟨a++ys,_,by rw [List.map_append],r3,h4.vc⟩⟩
        exact h5.put o.dst rfl
       ·cases x4
      ·cases h
     ·cases h
    ·cases h
   ·cases h
  ·cases h
 ·cases h
end
end Go.Tx
