import Derived.Test.YtleeccmcgophfaaGreatPH
import Derived.Test.YtleeccmcgophfaaGreatPE
set_option linter.all false
namespace Go.Tx
open Go Go.Ab
structure Cx where
 P:Program
 tb:Tab
 pl:FuncId→Nat→List Seg
 hl:Nat→Option (List Nat×List Name×List Name×Cv)
 sp:FuncId→Option Spec:=fun _=>none
def Cx.tbo (C:Cx):Tab:=fun g=>match C.sp g with
 | some _=>none
 | none=>C.tb g
mutual
def YR:SV→Option Name
 | .vsl n=>some n
 | .vpt n _ _ _=>some n
 | .fn _ c=>Ak c
 | .agg c=>Ak c
 | .mix _ _ _ c=>Ak c
 | .tup c=>Ak c
 | .gd _ x=>YR x
 | _=>none
def Ak:List SV→Option Name
 | []=>none
 | x::l=>match YR x with
  | some n=>some n
  | none=>Ak l
end
def quick (C:Cx) (nm:Name) (g:FuncId) (args:List SV) (y:Sy):Option (Bs×Sy×SV) :=
 match C.sp g with
 | some sp=>vw C.P nm sp args y
 | none=>match OD C.tb y.g.length g args with
  | some (bs,z)=>some (bs,y.more (bs.map (·.2)),z)
  | none=>none
def O8 (C:Cx) (g:FuncId) (args:List SV) (y:Sy):Option (Name×Ty×E) :=
 match C.tb g,Ak args with
 | some _,some i=>match aj i y.vc with
  | some (u,q)=>some (i,u,q)
  | none=>none
 | _,_=>none
abbrev Hint:=List Nat×List Name×List Name×Cv
abbrev Log:=List (Nat×Hint)
structure Res where
 t:T
 L:List Leaf
 c:Nat
 log:Log
abbrev Ps:=List (Ty×List E)
def allOf {α β:Type} (f:α→Option β):List α→Option (List β)
 | []=>some []
 | x::xs=>match f x,allOf f xs with
  | some y,some ys=>some (y::ys)
  | _,_=>none
def O9:List (List SV)→Option (List SV×List (List SV))
 | []=>some ([],[])
 | (x::xs)::l=>match O9 l with
  | some (hs,ts)=>some (x::hs,xs::ts)
  | none=>none
 | []::_=>none
def Am:SV→Bool
 | .dead=>true
 | _=>false
def joinL (F:List SV→Ps→SV×Ps):Nat→List (List SV)→Ps→Option (List SV×Ps)
 | 0,_,ps=>some ([],ps)
 | k+1,xs,ps=>match O9 xs with
  | some (hs,ts)=>match F hs ps with
   | (y,ps1)=>if Am y then none else match joinL F k ts ps1 with
    | some (ys,ps2)=>some (y::ys,ps2)
    | none=>none
  | none=>none
def aaA (n0:Nat) (t:Ty) (xs:List (E×List SV)) (ps:Ps):E×Ps:=match xs with
 | []=>(.var 0,ps)
 | (b,l)::r=>if r.all (fun q=>q.1.same b)&&b.lt n0 then (b,ps) else (.var (n0+ps.length),ps++[(t,((b,l)::r).map fun q=>q.1)])
def Pg (n0:Nat):Nat→List SV→Ps→SV×Ps
 | 0,_,ps=>(.dead,ps)
 | d+1,zs,ps=>match zs with
  | []=>(.dead,ps)
  | z::rest=>if rest.all (fun x=>x.same z)&&z.lt n0 then (z,ps) else match z with
   | .e t _=>match allOf (fun x=>match x with | .e u y=>if u=t then some y else none | _=>none) zs with
    | some xs=>(.e t (.var (n0+ps.length)),ps++[(t,xs)])
    | none=>(.dead,ps)
   | .own i sz t _=>match allOf (fun x=>match x with | .own j _ u y=>if u=t∧i=j then some y else none | _=>none) zs with
    | some xs=>(.own i sz t (.var (n0+ps.length)),ps++[(.sl t,xs)])
    | none=>(.dead,ps)
   | .mpc k t _=>match allOf (fun x=>match x with | .mpc q u y=>if u=t∧q=k then some y else none | _=>none) zs with
    | some xs=>(.mpc k t (.var (n0+ps.length)),ps++[(.mp k t,xs)])
    | none=>(.dead,ps)
   | .ref t _ o=>match allOf (fun x=>match x with | .ref u y a=>if u=t∧a=o then some y else none | _=>none) zs with
    | some xs=>(.ref t (.var (n0+ps.length)) o,ps++[(t,xs)])
    | none=>(.dead,ps)
   | .agg cs=>match allOf (fun x=>match x with | .agg y=>if y.length=cs.length then some y else none | _=>none) zs with
    | some xs=>match joinL (Pg n0 d) cs.length xs ps with
     | some (ys,ps)=>(.agg ys,ps)
     | none=>(.dead,ps)
    | none=>(.dead,ps)
   | .mix t _ os cs=>match allOf (β:=E×List SV) (fun x=>match x with | .mix u y ps ws=>if u=t∧ps=os then some (y,ws) else none | _=>none) zs with
    | some xs=>match aaA n0 t xs ps with
     | (b,ps0)=>match joinL (Pg n0 d) cs.length (xs.map fun q=>q.2) ps0 with
      | some (ys,ps1)=>(.mix t b os ys,ps1)
      | none=>(.dead,ps)
    | none=>(.dead,ps)
   | .fn f cs=>match allOf (fun x=>match x with | .fn g y=>if y.length=cs.length∧f=g then some y else none | _=>none) zs with
    | some xs=>match joinL (Pg n0 d) cs.length xs ps with
     | some (ys,ps)=>(.fn f ys,ps)
     | none=>(.dead,ps)
    | none=>(.dead,ps)
   | _=>(.dead,ps)
def Vb (n0:Nat) (ys:List Sy):List (Nat×SV)→Ps→List (Nat×SV)×Ps
 | [],ps=>([],ps)
 | (t,_)::l,ps=>match Pg n0 4 (ys.map fun y=>lkS t y.ts) ps with
  | (z,ps1)=>match Vb n0 ys l ps1 with
   | (r,ps2)=>if Am z then (r,ps2) else ((t,z)::r,ps2)
def Ph (n0:Nat) (ys:List Sy):List (Name×SV)→Ps→List (Name×SV)×Ps
 | [],ps=>([],ps)
 | (n,_)::l,ps=>match allOf (fun (y:Sy)=>aj n y.bx) ys with
  | some zs=>match Pg n0 4 zs ps with
   | (z,ps1)=>match Ph n0 ys l ps1 with
    | (r,ps2)=>if Am z then (r,ps2) else ((n,z)::r,ps2)
  | none=>Ph n0 ys l ps
def YS (a b:List Name):List Name:=a.filter fun i=>b.contains i
def JA (n0:Nat) (ys:List Sy):List (Name×Ty×E)→Ps→List (Name×Ty×E)×Ps
 | [],ps=>([],ps)
 | (n,t,x)::l,ps=>match allOf (fun (y:Sy)=>match aj n y.vc with | some (u,e)=>if u=t then some e else none | none=>none) ys with
  | some es=>if es.all (fun e=>e.same x)&&x.lt n0 then (match JA n0 ys l ps with | (r,ps2)=>((n,t,x)::r,ps2))
   else (match JA n0 ys l (ps++[(.sl t,es)]) with | (r,ps2)=>((n,t,.var (n0+ps.length))::r,ps2))
  | none=>JA n0 ys l ps
def Pj (ys:List Sy) (n:Name):Bool:=match ys with
 | []=>true
 | y::rest=>match aj n y.vc with
  | some (t,_)=>rest.all fun z=>match aj n z.vc with | some (u,_)=>decide (u=t) | none=>false
  | none=>false
def WX (ys:List Sy) (common:List Name):List Name:=((ys.flatMap fun z=>(z.vc.map (·.1)).filter fun n=>!Pj ys n).eraseDups).map fun n=>if common.contains n then 987654321::n else n
mutual
def JB:SV→List Name
 | .vsl n=>[n]
 | .vpt n _ _ _=>[n]
 | .fn _ c=>yg c
 | .agg c=>yg c
 | .mix _ _ _ c=>yg c
 | .tup c=>yg c
 | .gd _ x=>JB x
 | _=>[]
def yg:List SV→List Name
 | []=>[]
 | x::l=>JB x++yg l
end
def WY (ys:List Sy):List Name:=match ys with
 | []=>[]
 | y::_ =>
  let cols:=(y.ts.map fun x=>ys.map fun z=>JB (lkS x.1 z.ts))++(y.bx.map fun x=>ys.map fun z=>JB ((aj x.1 z.bx).getD .dead))
  ((cols.flatMap fun col=>(col.flatMap id).filter fun n=>col.any fun c=>!c.contains n).eraseDups).filter (Pj ys)
structure Join where
 ids:List Name
 cv:Cv
 y:Sy
 ps:List Ty
 as:List (List E)
def kindOf:SV→Nat×Option Ty×Name
 | .e t _=>(1,some t,[])
 | .own i _ t _=>(2,some (.sl t),i)
 | .nil=>(3,none,[])
 | .agg _=>(4,none,[])
 | .mix t _ os _=>(6,some t,os)
 | .kd _=>(5,none,[])
 | _=>(0,none,[])
def jL {κ:Type} (f:κ→Sy→SV) (ys:List Sy):List κ→List (κ×Ty)
 | []=>[]
 | k::l =>
  let ks:=ys.map fun y=>kindOf (f k y)
  match ks with
  | []=>jL f ys l
  | (n,w,i)::rest=>if n≠0∧rest.any (fun r=>r.1≠n || r.2.2≠i)&&ks.all (fun r=>r.1≠0) then (match ks.findSome? (fun r=>if r.1=1 then r.2.1 else none),ks.findSome? (fun r=>r.2.1) with
    | some w,_=>(k,w)::jL f ys l
    | none,some w=>(k,w)::jL f ys l
    | none,none=>jL f ys l)
   else jL f ys l
def WZ (g0:List Ty) (ys:List Sy):Option Join :=
 match ys with
 | []=>none
 | y::rest =>
  let common:=rest.foldl (fun a z=>YS a z.ow) y.ow
  let ids:=(ys.flatMap fun z=>z.ow.filter fun i=>!common.contains i).eraseDups++WX ys common++(WY ys).map fun n=>if common.contains n then 987654321::n else n
  let zs0:=ys.map (kX ids)
  let cv:=(jL (fun t (y:Sy)=>lkS t y.ts) zs0 (match zs0 with | z::_=>z.ts.map (·.1) | []=>[]),jL (fun n (y:Sy)=>(aj n y.bx).getD .dead) zs0 (match zs0 with | z::_=>z.bx.map (·.1) | []=>[]))
  let zs:=zs0.map (WU cv)
  match zs with
  | []=>none
  | z::_ =>
   let (ts,p1):=Vb g0.length zs z.ts []
   let (bx,p2):=Ph g0.length zs z.bx p1
   let (vc,p3):=JA g0.length zs z.vc p2
   let ps:=p3.map (·.1)
   some ⟨ids,cv,{ z with g:=g0++ps,ts:=ts,bx:=bx,ow:=common,vc:=vc },ps,(List.range ys.length).map fun i=>p3.map fun p=>p.2.getD i (.var 0)⟩
def Vd (a b:Leaf):Bool:=Jv a.e b.e&&lpB a.s.lp b.s.lp
def classes:List Leaf→List Leaf→List Leaf
 | [],acc=>acc.reverse
 | x::l,acc=>if acc.any (Vd x) then classes l acc else classes l (x::acc)
def kY (g0:List Ty) (force:Bool) (rep:Leaf) (r:Res):Option Res :=
 let mem:=r.L.filter fun x=>Vd x rep
 if !force&&(mem.length≤1:Bool) then some r
 else match WZ g0 (mem.map (·.s)) with
  | some j=>if j.y.g=g0++j.ps then (match glue g0.length j.ids j.cv j.y j.ps rep j.as r.t r.L with
   | some (t,L)=>some { r with t:=t,L:=L }
   | none=>none) else none
  | none=>none
def fG (g0:List Ty) (force:Bool) (r:Res):Option Res :=
 (classes r.L []).foldl (fun (acc:Option Res) (rep:Leaf)=>match acc with | some r=>kY g0 force rep r | none=>none) (some r)
structure Lv where
 n:List Nat
 ex:List (Nat×List Nat)
 r:List Nat
inductive LC where
 | nil | seq (lb:List Nat) (a b:LC) | two (a b:LC) | loop (l:List Nat) (b:LC)
 deriving Inhabited
def Yi (t:Nat):List Nat→Bool
 | []=>false
 | a::l=>if Nat.beq a t then true else Yi t l
def addN (t:Nat) (l:List Nat):List Nat:=if Yi t l then l else t::l
def Yj:List Nat→List Nat→List Nat
 | [],l=>l
 | t::k,l=>addN t (Yj k l)
def Hy (i:Nat):List (Nat×List Nat)→List Nat
 | []=>[]
 | (a,l)::k=>if Nat.beq a i then l else Hy i k
def aa6 (lv:Lv):Ex→List Nat
 | .norm=>lv.n
 | .exit i=>Hy i lv.ex
 | .ret=>lv.r
def YT:Operand→List Nat→List Nat
 | .tmp t,l=>addN t l
 | _,l=>l
def W9:List Operand→List Nat→List Nat
 | [],l=>l
 | o::os,l=>YT o (W9 os l)
def aa7 (all:Array Oper):List Oper→List Nat→List Nat
 | [],l=>l
 | o::os,l =>
  let after:=aa7 all os l
  let cut:=match o.dst with | some d=>after.filter fun t=>!Nat.beq t d | none=>after
  W9 o.op.operands.toList (match o.guard with
   | some (j,_)=>(match (all[j]?).bind (·.dst) with | some t=>addN t cut | none=>cut)
   | none=>cut)
def mG:Code→List Nat→List Nat
 | .region _ ops _,l=>ops.toList.foldr (fun o l=>W9 o.op.operands.toList l) l
 | .seq a b,l=>mG a (mG b l)
 | .cond c a b,l=>YT c (mG a (mG b l))
 | .block _ b,l=>mG b l
 | .scope b,l=>mG b l
 | .loop b,l=>mG b l
 | .rangeFunc g _ a b,l=>YT g (mG a (mG b l))
 | _,l=>l
def qP:Code→Lv→List Nat×LC
 | .region _ ops _,lv=>(aa7 ops ops.toList lv.n,.nil)
 | .seq a b,lv=>match qP b lv with
  | (lb,B)=>match qP a { lv with n:=lb } with
   | (la,A)=>(la,.seq lb A B)
 | .cond c a b,lv=>match qP a lv,qP b lv with
  | (la,A),(lb,B)=>(YT c (Yj la lb),.two A B)
 | .block id b,lv=>match qP b { lv with ex:=(id,lv.n)::lv.ex } with
  | (l,B)=>(l,.two B .nil)
 | .loop b,lv=>match qP b { lv with n:=[] } with
  | (l,_)=>match qP b { lv with n:=l } with
   | (_,B)=>(l,.loop l B)
 | .rangeFunc g _ a b,lv=>(YT g (mG a (mG b (Yj lv.n (Yj lv.r (lv.ex.foldr (fun x l=>Yj x.2 l) []))))),.nil)
 | .scope b,lv=>match qP b lv with
  | (l,B)=>(l,.two B .nil)
 | .exit i,lv=>(Hy i lv.ex,.nil)
 | .ret,lv=>(lv.r,.nil)
 | _,lv=>(lv.n,.nil)
def ZV:List ResultVar→List Nat
 | []=>[]
 | .tmp t::rs=>addN t (ZV rs)
 | .cell a _::rs=>addN a (ZV rs)
def lv0:Lv:=⟨[],[],[]⟩
def lvF (rs:List ResultVar):Lv:=⟨ZV rs,[],ZV rs⟩
def LC.a:LC→LC
 | .seq _ a _=>a
 | .two a _=>a
 | .loop _ b=>b
 | .nil=>.nil
def LC.b:LC→LC
 | .seq _ _ b=>b
 | .two _ b=>b
 | _=>.nil
def LC.l:LC→List Nat
 | .seq l _ _=>l
 | .loop l _=>l
 | _=>[]
def Ap (kp:List Nat) (y:Sy):Sy:={ y with ts:=y.ts.filter fun x=>Yi x.1 kp,bx:=y.bx.map fun x=>(x.1,x.2.norm) }
def keepR (lv:Lv) (r:Res):Res:={ r with L:=r.L.map fun lf=>{ lf with s:=Ap (aa6 lv lf.e) lf.s } }
def binds:Bs→T→T
 | [],t=>t
 | b::bs,t=>.bind b.1 b.2 (binds bs t)
def iM (k n:Nat) (t:T):T:=t.sub fun i=>if i<n then .hole (i+k) else .fail
def Tt (f:Leaf→Nat→Option Res):List Leaf→Nat→Nat→Option (List T×List Leaf×Nat×Log)
 | [],_,c=>some ([],[],c,[])
 | lf::L,off,c=>match f lf c with
  | some r=>match Tt f L (off+r.L.length) r.c with
   | some (ts,Ls,c2,lg)=>some ((if off=0∧L.isEmpty=true then r.t else iM off r.L.length r.t)::ts,r.L++Ls,c2,r.log++lg)
   | none=>none
  | none=>none
def kG (r:Res) (f:Leaf→Nat→Option Res):Option Res :=
 match Tt f r.L 0 r.c with
 | some (ts,Ls,c,lg)=>some ⟨r.t.sub (fun i=>ts.getD i .fail),Ls,c,r.log++lg⟩
 | none=>none
def Lu (f:Leaf→Leaf) (r:Res):Res:={ r with L:=r.L.map f }
def one (e:Ex) (v:SV) (y:Sy) (c:Nat):Res:=⟨.hole 0,[⟨e,v,y⟩],c,[]⟩
def Ve (n0:Nat) (z:SV) (ps:Ps):SV×Ps:=match z with
 | .e (.cst c) x=>(.e (.cst c) x,ps)
 | .e t x=>(.e t (.var (n0+ps.length)),ps++[(t,[x])])
 | .own i sz t x=>(.own i sz t (.var (n0+ps.length)),ps++[(.sl t,[x])])
 | .mpc k t x=>(.mpc k t (.var (n0+ps.length)),ps++[(.mp k t,[x])])
 | z=>(z,ps)
def Pm (n0:Nat):List SV→Ps→List SV×Ps
 | [],ps=>([],ps)
 | z::l,ps=>match Ve n0 z ps with
  | (z1,ps1)=>match Pm n0 l ps1 with
   | (r,ps2)=>(z1::r,ps2)
def YU (n0:Nat) (z:SV) (ps:Ps):SV×Ps:=match z with
 | .agg cs=>match Pm n0 cs ps with | (ds,ps1)=>(.agg ds,ps1)
 | .mix t x os cs=>match Pm n0 cs (ps++[(t,[x])]) with | (ds,ps1)=>(.mix t (.var (n0+ps.length)) os ds,ps1)
 | z=>Ve n0 z ps
def Pn {κ:Type} (n0:Nat) (ch:κ→Bool):List (κ×SV)→Ps→List (κ×SV)×Ps
 | [],ps=>([],ps)
 | (t,z)::l,ps=>match (if ch t then YU n0 z ps else (z,ps)) with
  | (z1,ps1)=>match Pn n0 ch l ps1 with
   | (r,ps2)=>((t,z1)::r,ps2)
def Po (n0:Nat) (ch:Name→Bool):List (Name×Ty×E)→Ps→List (Name×Ty×E)×Ps
 | [],ps=>([],ps)
 | (n,t,x)::l,ps=>if ch n then (match Po n0 ch l (ps++[(.sl t,[x])]) with | (r,ps2)=>((n,t,.var (n0+ps.length))::r,ps2))
  else (match Po n0 ch l ps with | (r,ps2)=>((n,t,x)::r,ps2))
def Pq (g0:List Ty) (h:Option Hint) (y:Sy):Sy×List Ty×List E :=
 let (ts,p1):=Pn g0.length (fun t=>match h with | some h=>h.1.contains t | none=>true) y.ts []
 let (bx,p2):=Pn g0.length (fun n=>match h with | some h=>h.2.1.contains n | none=>true) y.bx p1
 let (vc,p3):=Po g0.length (fun n=>match h with | some h=>h.2.1.contains n | none=>true) y.vc p2
 ({ y with g:=g0++p3.map (·.1),ts:=ts,bx:=bx,vc:=vc },p3.map (·.1),p3.map fun p=>p.2.headD (.var 0))
def MC:Option Hint→List Name
 | some h=>h.2.2.1
 | none=>[]
def hCv:Option Hint→Cv
 | some h=>h.2.2.2
 | none=>([],[])
def Vf:SV→SV→List (Nat×E)
 | .e _ (.var i),.e _ x=>[(i,x)]
 | .own _ _ _ (.var i),.own _ _ _ x=>[(i,x)]
 | .mpc _ _ (.var i),.mpc _ _ x=>[(i,x)]
 | .agg cs,.agg ds=>(cs.zip ds).flatMap fun z=>match z with
  | (.e _ (.var i),.e _ x)=>[(i,x)]
  | (.own _ _ _ (.var i),.own _ _ _ x)=>[(i,x)]
  | _=>[]
 | .mix _ (.var i) _ cs,.mix _ x _ ds=>(i,x)::(cs.zip ds).flatMap fun z=>match z with
  | (.e _ (.var i),.e _ x)=>[(i,x)]
  | (.own _ _ _ (.var i),.own _ _ _ x)=>[(i,x)]
  | _=>[]
 | _,_=>[]
def YV (i:Nat):List (Nat×E)→E
 | []=>.var i
 | (j,x)::l=>if Nat.beq i j then x else YV i l
def Xa (n0 np:Nat) (yJ y:Sy):List E :=
 let m:=(yJ.ts.flatMap fun x=>Vf x.2 (lkS x.1 y.ts))++(yJ.bx.flatMap fun x=>match aj x.1 y.bx with | some z=>Vf x.2 z | none=>[])++(yJ.vc.flatMap fun x=>match x.2.2,aj x.1 y.vc with | .var i,some (_,e)=>[(i,e)] | _,_=>[])
 (List.range np).map fun k=>YV (n0+k) m
def Fb (h:Option Hint) (yJ:Sy) (ys:List Sy):Hint :=
 let cv:Cv:=(jL (fun t (y:Sy)=>lkS t y.ts) (yJ::ys) (yJ.ts.map (·.1)),jL (fun n (y:Sy)=>(aj n y.bx).getD .dead) (yJ::ys) (yJ.bx.map (·.1)))
 ((yJ.ts.filter fun x=>ys.any fun y=>!(lkS x.1 y.ts).same x.2).map (·.1),(yJ.bx.filter fun x=>ys.any fun y=>match aj x.1 y.bx with | some z=>!z.same x.2 | none=>true).map (·.1)++(yJ.vc.filter fun x=>ys.any fun y=>match aj x.1 y.vc with | some (_,e)=>!e.same x.2.2 | none=>true).map (·.1),
  MC h++(yJ.ow.filter fun i=>ys.any fun y=>!y.ow.contains i)++((yJ.vc.filter fun x=>ys.any fun y=>(aj x.1 y.vc).isNone).map fun x=>987654321::x.1),((hCv h).1++cv.1,(hCv h).2++cv.2))
def vF:Ex→Bool
 | .norm=>true
 | _=>false
def Xb (g0:List Ty) (hh:Option Hint) (yL:Sy) (ps:List Ty) (init:List E) (c0:Nat) (r:Res):Option Res :=
 match sigma g0.length (MC hh) (hCv hh) yL ⟨.norm,.dead,yL⟩ r.L (((r.L.filter fun lf=>vF lf.e).map fun lf=>uM (MC hh) (hCv hh) lf.s).map fun y=>Xa g0.length ps.length yL y) 0 with
 | some (ts,os)=>if os.all (fun lf=>!vF lf.e)=true then fG g0 true ⟨.loop ps init ((r.t.lift 0).sub fun i=>ts.getD i .fail),os,r.c,(c0,Fb hh yL ((r.L.filter fun lf=>vF lf.e).map (·.s)))::r.log⟩ else none
 | none=>fG g0 true ⟨.fail,r.L.filter fun lf=>!vF lf.e,r.c,(c0,Fb hh yL ((r.L.filter fun lf=>vF lf.e).map (·.s)))::r.log⟩
def QK:Nat→List SV→List (Nat×SV)
 | _,[]=>[]
 | i,v::vs=>(i,v)::QK (i+1) vs
def Sy.push (y:Sy) (n:Nat) (args:List SV):Sy:={ y with rd:=none,n:=n,ts:=QK 0 args,sv:=⟨y.rd,y.n,y.ts⟩::y.sv }
def Sy.pop (y:Sy):Sy:=match y.sv with
 | f::fs=>{ y with rd:=f.rd,n:=f.n,ts:=f.ts,sv:=fs }
 | []=>y
def Sy.eH (y:Sy) (l:Name) (nt:Nat) (args:List SV) (q:Lp):Sy:={ y with rd:=none,n:=nt,ts:=QK 0 args,sv:=⟨some l,y.n,y.ts⟩::y.sv,lp:=(l,q)::y.lp }
def Sy.dY (y:Sy):Sy:=match y.sv with
 | f::fs=>{ y with rd:=none,n:=f.n,ts:=f.ts,sv:=fs,lp:=y.lp.tail }
 | []=>y
def Sy.bg (y:Sy) (r:Option Name):Sy:=match y.sv with
 | f::fs=>{ y with rd:=r,n:=f.n,ts:=f.ts,sv:=fs,lp:=y.lp.tail }
 | []=>y
def Xc (y:Sy):Bool:=match y.rd with
 | none=>true
 | some l=>(aj l y.lp).isSome&&(y.sv.map (·.rd)).contains (some l)
def Sy.aU (y:Sy) (l:Name) (q:Lp):Sy:={ y with lp:=Ab.dh l q y.lp }
def Hz:List Nat→List SV→List (Nat×SV)→List (Nat×SV)
 | t::ts,v::vs,l=>Hz ts vs (NY t v l)
 | _,_,l=>l
def yh (y:Sy):List SFr:=⟨y.rd,y.n,y.ts⟩::y.sv
def Sy.round (y:Sy) (l:Name) (f:SFr) (ps:List Nat) (args:List SV):Sy:={ y with rd:=some l,n:=f.n,ts:=Hz ps args f.ts,sv:=⟨y.rd,y.n,y.ts⟩::y.sv }
def YW (y:Sy):List (Option Name):=y.rd::y.sv.map (·.rd)
def resV (P:Program) (y:Sy):List ResultVar→Option (List SV)
 | []=>some []
 | .tmp t::rs=>(resV P y rs).map fun vs=>lkS t y.ts::vs
 | .cell a t::rs=>match zC P t with
  | some ag=>if ag=true∨tsz P t≠0 then (match lkS a y.ts with
   | .ptr nm off=>match aj nm y.bx with
    | some c=>match BX ag (tyD P t) off (tsz P t) c with
     | some z=>(resV P y rs).map fun vs=>z::vs
     | none=>none
    | none=>none
   | _=>none) else none
  | none=>none
def Pv:List SV→SV
 | [v]=>v
 | vs=>.tup vs
def Xd:Ex→Bool
 | .exit _=>true
 | _=>false
def QL (r:Res):Option Res:=if r.L.any (fun lf=>Xd lf.e) then none else some (Lu (fun lf=>{ lf with e:=.ret }) r)
def Px:Ex→Bool
 | .norm=>true
 | _=>false
def JC:Name→FuncId
 | [_,f]=>f
 | _=>0
def qQ:SV→Bool
 | .nil=>false
 | .gd _ x=>qQ x
 | _=>true
def yj:Option SV→Bool
 | some z=>qQ z
 | none=>false
def Py (y:Sy):Op→Bool
 | .binOp _ _ _ z _=>yj (y.get z)
 | .assign x=>yj (y.get x)
 | _=>true
def Fg (C:Cx) (p:Name) (all:Array Oper):List Nat→Sy→Option (Bs×Sy)
 | [],y=>some ([],y)
 | i::l,y=>match all[i]? with
  | some o=>if Py y o.op=true then (match vK C.P C.tb p all y o with
   | some (bs,y1)=>match Fg C p all l y1 with
    | some (bs2,y2)=>some (bs++bs2,y2)
    | none=>none
   | none=>none) else none
  | none=>none
def Xe (C:Cx) (p:Name) (all:Array Oper) (g:List Nat) (j:Nat) (y:Sy):Option (Bs×Sy) :=
 match (all[j]?).bind callOf with
 | some (t,fv,as)=>if y.free (t::p)=true then (match Fg C p all g y with
  | some (bs,y1)=>if y1.free (t::p)=true∧t<y1.n then (match y1.get fv,getAll y1.get as with
   | some (.e (.cst (.fnc h)) _),some [z]=>if callable C.P h=true then (match C.sp h with
    | some (.clo ts te)=>match asS (tyD C.P ts) z with
     | some (w,ye)=>if w.size=tsz C.P te∧dW C.P te≠0 then some (bs++[(.r2 (.app (dW C.P te)) (.zero (.sl w)) ye,.sl w)],(y1.bH (t::p) w).put (some t) (.vsl (t::p))) else none
     | none=>none
    | _=>none) else none
   | _,_=>none) else none
  | none=>none) else none
 | none=>none
structure DK where
 i:Nat
 z:SV
 w:List (Name×SV)
 wv:List (Name×Ty×E):=[]
def LD (H:List Name) (y:Sy):Sy:={ y with bx:=y.bx.filter fun x=>!H.contains x.1,vc:=y.vc.filter fun x=>!H.contains x.1 }
def aaB (P:Program) (ty:TypeId) (y:Sy) (n:Name) (u:Ty) (i:E) (inn:Nat) (v:SV):Option (Bs×Sy×Ty×E) :=
 match aj n y.vc,asE (tyD P ty) (Me (tyD P ty) v) with
 | some (u',l),some (w,e)=>if u' = u∧w.size=tsz P ty∧tsz P ty≠0∧(xG (Me (tyD P ty) v)).isSome=true∧w=u∧inn=0 then
   some ([(.r3 .lset l i e,.sl u)],({ y.more [.sl u] with vc:=(n,(u,.var y.g.length))::y.vc }:Sy),u,.var y.g.length) else none
 | _,_=>none
def Vg (d:Option Tmp) (y:Sy):SV:=match d with | some t=>lkS t y.ts | none=>.dead
def Pz (bs:Bs) (e:DK):Option (Bs×List DK×Sy)→Option (Bs×List DK×Sy)
 | some (bs2,L,y)=>some (bs++bs2,e::L,y)
 | none=>none
def QM (C:Cx) (p:Name) (all:Array Oper) (H:Nat→List Name):List Nat→Sy→Option (Bs×List DK×Sy)
 | [],y=>some ([],[],y)
 | i::rest,y=>match all[i]? with
  | some o=>match o.op with
   | .alloc ty=>match o.dst,o.guard with
    | some t,none=>match Jk C.P ty with
     | some z=>if t<y.n∧(H i).contains (t::p)=false∧qQ z=true∧xG z=some (tsz C.P ty)∧isNone' (aj (t::p) y.bx)=true then
       Pz [] ⟨i,.ptr (t::p) 0,[(t::p,z)],[]⟩ (QM C p all H rest (({ y with bx:=(t::p,z)::y.bx }:Sy).put (some t) (.ptr (t::p) 0))) else none
     | none=>none
    | _,_=>none
   | .store ty x v=>match o.dst,o.guard,y.get x,y.get v with
    | none,none,some (.ptr nm off),some zv=>match aj nm y.bx,Jd off (Me (tyD C.P ty) zv) ((aj nm y.bx).getD .dead) with
     | some _,some c'=>if (H i).contains nm=false∧qQ zv=true∧tsz C.P ty≠0∧xG (Me (tyD C.P ty) zv)=some (tsz C.P ty) then
       Pz [] ⟨i,.dead,[(nm,c')],[]⟩ (QM C p all H rest { y with bx:=(nm,c')::y.bx }) else none
     | _,_=>none
    | none,none,some (.vpt nm u ix inn),some zv=>match aaB C.P ty y nm u ix inn zv with
     | some (bs,y1,w,e)=>if (H i).contains nm=false∧qQ zv=true then Pz bs ⟨i,.dead,[],[(nm,(w,e))]⟩ (QM C p all H rest y1) else none
     | none=>none
    | _,_,_,_=>none
   | _=>if calm o.op=true∧o.dst.isSome=true∧Py y o.op=true then (match vK C.P C.tb p all (LD (H i) y) o with
     | some (bs,y1)=>Pz bs ⟨i,Vg o.dst y1,[],[]⟩ (QM C p all H rest { y1 with bx:=y.bx,vc:=y.vc })
     | none=>none) else none
  | none=>none
def ZW (all:Array Oper):List Nat→List (Nat×List Nat)→List (Nat×List Nat)
 | [],acc=>acc
 | i::rest,acc=>ZW all rest ((i,(jH all i).foldl (fun l q=>Yj (Hy q acc) l) (jH all i))::acc)
def Fh (e:DK):List Name:=e.w.map (·.1)++e.wv.map (·.1)
def hOf (pre:Nat→List Nat) (L:List DK) (i:Nat):List Name:=L.flatMap fun e=>if Ez pre i e.i then Fh e else []
def Xf (all:Array Oper) (p:Name) (pre:Nat→List Nat) (H:Nat→List Name) (y0:Sy) (L:List DK):Bool :=
 L.all (fun e=>L.all fun x=>!Ez pre e.i x.i || (Fh x).all fun y=>(H e.i).contains y&&(Fh e).all fun z=>!decide (z=y)) &&
 L.all (fun e=>(VX all p e.i).all fun nm=>!y0.refs nm&&L.all fun x=>Nat.beq e.i x.i || ((pre x.i).contains e.i || (!x.z.refs nm&&x.w.all fun y=>!y.2.refs nm)))
def ddN {α:Type}:List (Name×α)→List (Name×α)
 | []=>[]
 | x::l=>x::(ddN l).filter fun y=>!decide (y.1=x.1)
def aaC (C:Cx) (p:Name) (all:Array Oper) (ord:List Nat) (y:Sy) (c:Nat):Option Res :=
 let pl:=ZW all ord []
 let pre:=fun i=>Hy i pl
 if VY all pre ord=true then (match QM C p all (fun _=>[]) ord y with
  | some (_,L0,_)=>match QM C p all (hOf pre L0) ord y with
   | some (bs,L,y1)=>if Xf all p pre (hOf pre L0) y L=true then some ⟨binds bs (.hole 0),[⟨.norm,.dead,{ y1 with bx:=ddN y1.bx,vc:=ddN y1.vc }⟩],c,[]⟩ else none
   | none=>none
  | none=>none) else none
def Xg (P:Program) (t:TypeId):List (Nat×Ty):=match P.underlying t with
 | some (.struct fs)=>fs.toList.filterMap fun f=>match fP P f.type with
  | some e=>(tyD P e).map fun w=>(f.offset,w)
  | none=>none
 | _=>[]
def Tv (C:Cx) (p:Name) (ops:Array Oper):List (Name×Nat×Ty×Bool):=ops.toList.flatMap fun o=>match o.op,o.dst with
 | .box t _,some d=>(Xg C.P t).map fun x=>(d::p,x.1,x.2,(C.sp (2000000+t * 1000+x.1)).isSome)
 | _,_=>[]
def yu (cl:List (Name×Nat×Ty×Bool)) (r:Res):Res:={ r with L:=r.L.map fun lf=>{ lf with s:=CO cl lf.s } }
mutual
def MF:SV→Bool
 | .ref _ _ _=>false
 | .mpc _ _ _=>false
 | .fn _ c=>Tz c
 | .agg c=>Tz c
 | .mix _ _ _ c=>Tz c
 | .tup c=>Tz c
 | .gd _ x=>MF x
 | _=>true
def Tz:List SV→Bool
 | []=>true
 | x::l=>MF x&&Tz l
end
def TF (y s:Sy) (n:Name):Bool:=(match aj n y.bx with
  | some z=>(match aj n s.bx with | some u=>MF z&&z.same u | none=>false)
  | none=>true)&&(match aj n y.vc with
  | some (t,x)=>(match aj n s.vc with | some (u,e)=>decide (t=u)&&x.same e | none=>false)
  | none=>true)
def aa8 (y:Sy):List Name:=y.bx.map (·.1)++y.vc.map (·.1)
def aa9 (y:Sy) (L:List Leaf):List Name:=(aa8 y).filter fun n=>!L.all fun lf=>TF y lf.s n
def TG (n:Name):SV→Bool
 | .ptr m _=>decide (m=n)
 | _=>false
def Xh (ds:List Tmp) (y s:Sy):SV→Bool
 | .e _ _=>true
 | .nil=>true
 | .ref _ _ _=>true
 | .ptr n _=>y.ts.any fun x=>!ds.contains x.1&&(TG n (lkS x.1 y.ts)&&TG n (lkS x.1 s.ts))
 | _=>false
def ZX (all:Array Oper) (hb:Sy) (l2:List Nat) (d:Option Tmp) (y1 y2 s:Sy):Bool :=
 (aa8 hb).all (fun n=>TF hb s n)&&(Nat.beq s.n y1.n &&
  l2.all fun q=>(readsOf all q).all (fun u=>l2.any (fun r=>decide (aK all r=some u)) || (MF (lkS u y1.ts)&&(lkS u y1.ts).same (lkS u s.ts)))&&Xh (d.toList++l2.filterMap (aK all)) y1 s (Vg (aK all q) y2))
def yw (all:Array Oper) (s:Sy) (l:List (Nat×SV)):Sy:=l.foldl (fun s x=>s.put (aK all x.1) x.2) s
def YX (all:Array Oper) (l2:List Nat) (y:Sy):Bool:=l2.all fun q=>match aK all q with
 | some d=>Am (lkS d y.ts)
 | none=>true
def YZ (C:Cx) (p:Name) (all:Array Oper) (pl:List Seg) (y:Sy):List Name:=match pl with
 | .beside l1 l2 _::_=>match Fg C p all (l1++l2) y with
  | some (_,y1)=>(l2.flatMap fun q=>match Vg (aK all q) y1 with
   | .own i _ _ _=>[i]
   | .vsl i=>[i]
   | _=>[]).eraseDups
  | none=>[]
 | _=>[]
inductive Task where
 | code (f:FuncId) (c:Code) (lc:LC) (lv:Lv)
 | ops (f:FuncId) (all:Array Oper) (l:List Oper)
 | plan (f:FuncId) (all:Array Oper) (l:List Seg)
 | bes (f:FuncId) (all:Array Oper) (l2:List Nat) (hb y2:Sy) (js:List Nat) (rest:List Seg)
 | call (g:FuncId) (args:List SV)
 | yld (l:Name) (args:List SV)
def LG (l:List (Name×Lp)):List (Name×Nat):=l.map fun x=>(x.1,x.2.depth)
def Xi (g:E) (y:Sy):Sy:={ y with ts:=y.ts.map fun x=>(x.1,uJ [g] x.2) }
def Xj (g:E) (z:SV):SV:=match z with
 | .gd gs x=>if gs.any (fun h=>h.same g) then .tup [] else .gd gs x
 | z=>z
def Xk (g:E) (y:Sy):Sy:={ y with ts:=y.ts.map fun x=>(x.1,Xj g x.2) }
def vG (C:Cx) (rec:Name→Task→Sy→Nat→Option Res) (p:Name) (f:FuncId) (all:Array Oper) (rest:List Oper) (o:Oper) (y:Sy) (c:Nat):Option Res :=
 match o.op with
 | .call cl=>match cl.callee with
  | .value fv=>match y.get fv,getAll y.get cl.args.toList with
   | some z,some args =>
    let p':=o.dst.getD 0::p
    match (match z with
     | .e (.cst (.fnc g)) _=>if callable C.P g=true then rec p' (.call g args) y c else none
     | .fn g cap=>if callable C.P g=true then rec p' (.call g (args++cap)) y c else none
     | .yld l=>rec p' (.yld l args) y c
     | _=>none) with
    | some r=>kG r fun lf c=>if zh lf.s.n o.dst=true then rec p (.ops f all rest) (lf.s.put o.dst lf.v) c else none
    | none=>none
   | _,_=>none
  | _=>none
 | _=>none
def cmp (C:Cx):Nat→Name→Task→Sy→Nat→Option Res
 | 0,_,_,_,_=>none
 | n+1,p,t,y,c=>match t with
  | .code f cd lc lv=>match cd with
   | .skip=>some (one .norm .dead y c)
   | .label _=>some (one .norm .dead y c)
   | .scope b=>cmp C n p (.code f b lc.a lv) y c
   | .exit i=>some (one (.exit i) .dead y c)
   | .ret=>some (one .ret .dead y c)
   | .region _ ops false=>(cmp C n p (.ops f ops ops.toList) y c).map fun r=>keepR lv (yu (Tv C p ops) (Lu (fun lf=>{ lf with e:=.norm }) r))
   | .region id ops true=>if gG ops [] (C.pl f id)=true then (cmp C n p (.plan f ops (C.pl f id)) (kX (YZ C p ops (C.pl f id) y) y) c).map fun r=>keepR lv (Lu (fun lf=>{ lf with e:=.norm }) r) else (aaC C p ops (flat (C.pl f id)) y c).map fun r=>keepR lv r
   | .seq a b=>match cmp C n p (.code f a lc.a { lv with n:=lc.l }) y c with
    | some r=>kG r fun lf c=>match lf.e with
     | .norm=>cmp C n p (.code f b lc.b lv) lf.s c
     | e=>some (one e .dead lf.s c)
    | none=>none
   | .cond cd a b=>match y.get cd with
    | some (.e .bool (.bool true))=>cmp C n p (.code f a lc.a lv) y c
    | some (.e .bool (.bool false))=>cmp C n p (.code f b lc.b lv) y c
    | some (.e .bool x)=>match cmp C n p (.code f a lc.a lv) y c with
     | some r1=>match cmp C n p (.code f b lc.b lv) y r1.c with
      | some r2=>fG y.g false <| keepR lv ⟨.ite x (iM 0 r1.L.length r1.t) (iM r1.L.length r2.L.length r2.t),r1.L++r2.L,r2.c,r1.log++r2.log⟩
      | none=>none
     | none=>none
    | _=>none
   | .block id b=>match cmp C n p (.code f b lc.a { lv with ex:=(id,lv.n)::lv.ex }) y c with
    | some r=>fG y.g false <| keepR lv (Lu (fun lf=>match lf.e with | .exit i=>if i=id then { lf with e:=.norm } else lf | _=>lf) r)
    | none=>none
   | .loop b=>match Pq y.g (C.hl c) (Ap lc.l (uM (MC (C.hl c)) (hCv (C.hl c)) y)) with
    | (yL,ps,init)=>if Hr y.g.length init (uM (MC (C.hl c)) (hCv (C.hl c)) y) yL=true∧yL.g=y.g++ps then (match cmp C n p (.code f b lc.a { lv with n:=lc.l }) yL (c+1) with
     | some r=>Xb y.g (C.hl c) yL ps init c (keepR { lv with n:=lc.l } r)
     | none=>none) else none
   | .rangeFunc g ps a b=>match y.get g with
    | some (.fn gf cap) =>
     let l:=[c,f]
     if Xc y && !(YW y).contains (some l)&&(aj l y.lp).isNone && !y.jF l && !SV.jB l cap&&callable C.P gf then (match C.P.funcs[gf]? with
      | some fn=>match fn.body with
       | some cb=>if (SV.yld l::cap).length≤fn.ntmps∧fn.results = #[] then (match cmp C n [c] (.code gf cb (qP cb lv0).2 lv0) (y.eH l fn.ntmps (.yld l::cap) ⟨y.sv.length,ps,a,b,none⟩) (c+1) with
        | some r=>match QL r with
         | some r=>match fG y.g false r with
          | some r=>(kG r fun lf c=>if lf.s.sv.length=y.sv.length+1∧LG lf.s.lp=(l,y.sv.length)::LG y.lp then (match lf.s.lp with
           | (_,q)::_=>match q.pending with
            | none=>some (one .norm .dead (lf.s.bg y.rd) c)
            | some (some (.exit i))=>some (one (.exit i) .dead (lf.s.bg y.rd) c)
            | some (some .ret)=>some (one .ret .dead (lf.s.bg y.rd) c)
            | _=>none
           | []=>none) else none)
          | none=>none
         | none=>none
        | none=>none) else none
       | none=>none
      | none=>none) else none
    | _=>none
   | _=>none
  | .ops f all l=>match l with
   | []=>some (one .norm .dead y c)
   | o::rest=>match vK C.P C.tbo p all y o with
    | some (bs,y1)=>(cmp C n p (.ops f all rest) y1 c).map fun r=>{ r with t:=binds bs r.t }
    | none=>if zh y.n o.dst=true then (match o.guard with
     | none=>vG C (cmp C n) p f all rest o y c
     | some (j,want)=>match (all[j]?).bind (·.dst) with
      | some t=>match lkS t y.ts with
       | .e .bool (.bool b)=>if b=want then vG C (cmp C n) p f all rest o y c else none
       | .e .bool x=>match vG C (cmp C n) p f all rest o (Xi (if want then x else .p1 .not x) { y with ts:=NY t (.e .bool (.bool want)) y.ts }) c with
        | some r1=>match cmp C n p (.ops f all rest) ((Xk (if want then x else .p1 .not x) { y with ts:=NY t (.e .bool (.bool !want)) y.ts }).put o.dst (.tup [])) r1.c with
         | some r2=>some ⟨if want then .ite x (iM 0 r1.L.length r1.t) (iM r1.L.length r2.L.length r2.t) else .ite x (iM r1.L.length r2.L.length r2.t) (iM 0 r1.L.length r1.t),r1.L++r2.L,r2.c,r1.log++r2.log⟩
         | none=>none
        | none=>none
       | _=>none
      | none=>none) else none
  | .plan f all l=>match l with
   | []=>some (one .norm .dead y c)
   | .calm g::rest=>match Fg C p all g y with
    | some (bs,y1)=>(cmp C n p (.plan f all rest) y1 c).map fun r=>{ r with t:=binds bs r.t }
    | none=>none
   | .bar i::rest=>match all[i]? with
    | some o=>match cmp C n p (.ops f all [o]) y c with
     | some r=>kG r fun lf c=>cmp C n p (.plan f all rest) lf.s c
     | none=>none
    | none=>none
   | .make g j::rest=>match Xe C p all g j y with
    | some (bs,y1)=>(cmp C n p (.plan f all rest) y1 c).map fun r=>{ r with t:=binds bs r.t }
    | none=>none
   | .beside l1 l2 js::rest=>match (if YX all l2 y=true then (match Fg C p all l1 y with
     | some (bs,y1)=>match cmp C n p (.ops f all (js.filterMap fun j=>all[j]?)) y1 c with
      | some r0=>match Fg C p all l2 (LD (aa9 y1 r0.L) y1) with
       | some ([],y2)=>(cmp C n p (.bes f all l2 (LD (aa9 y1 r0.L) y1) y2 js rest) y1 c).map fun r=>{ r with t:=binds bs r.t }
       | _=>none
      | none=>none
     | none=>none) else none) with
    | some r=>some r
    | none=>match Fg C p all (l1++l2) y with
     | some (bs,y1)=>match cmp C n p (.ops f all (js.filterMap fun j=>all[j]?)) y1 c with
      | some r0=>(kG r0 fun lf c=>cmp C n p (.plan f all rest) lf.s c).map fun r=>{ r with t:=.fail }
      | none=>none
     | none=>none
   | .fresh g i j::rest=>match all[i]?,all[j]? with
    | some oi,some oj=>match oi.dst,oi.op,oj.op with
     | some t,.alloc ty,.store _ _ x=>if y.refs (t::p)=false∧(aX C.P ty).notNil=true then (match Fg C p all g y with
      | some (bs,y1)=>if yj (y1.get x)=true then (match vK C.P C.tb p all y1 oi with
       | some (bs2,y2)=>match vK C.P C.tb p all y2 oj with
        | some (bs3,y3)=>(cmp C n p (.plan f all rest) y3 c).map fun r=>{ r with t:=binds (bs++(bs2++bs3)) r.t }
        | none=>none
       | none=>none) else none
      | none=>none) else none
     | _,_,_=>none
    | _,_=>none
  | .bes f all l2 hb y2 js rest=>match js with
   | []=>cmp C n p (.plan f all rest) (yw all y (l2.map fun q=>(q,Vg (aK all q) y2))) c
   | j::js=>match all[j]? with
    | some oj=>if YX all l2 y=true then (match cmp C n p (.ops f all [oj]) y c with
     | some r=>kG r fun lf c=>if ZX all hb l2 oj.dst y y2 lf.s=true then cmp C n p (.bes f all l2 hb y2 js rest) lf.s c else none
     | none=>none) else none
    | none=>none
  | .call g args=>match quick C p g args y with
   | some (bs,y1,z1)=>some ⟨binds bs (.hole 0),[⟨.norm,z1,y1⟩],c,[]⟩
   | none=>match O8 C g args y with
   | some (i,u,q)=>cmp C n p (.call g (SV.jq i u q args)) (y.soft i) c
   | none=>match C.P.funcs[g]? with
   | some fn=>match fn.body with
    | some cb=>if args.length≤fn.ntmps then (match cmp C n [c] (.code g cb (qP cb (lvF fn.results.toList)).2 (lvF fn.results.toList)) (y.push fn.ntmps args) (c+1) with
     | some r=>match QL r with
      | some r=>match fG y.g false r with
       | some r=>kG r fun lf c=>if lf.s.sv.length=y.sv.length+1∧LG lf.s.lp=LG y.lp then (match resV C.P lf.s fn.results.toList with
        | some vs=>some (one .norm (Pv vs) lf.s.pop c)
        | none=>none) else none
       | none=>none
      | none=>none
     | none=>none) else none
    | none=>none
   | none=>none
  | .yld l args=>match aj l y.lp with
   | some q=>match (yh y).reverse[q.depth]? with
    | some f=>if q.ps.toList.all (fun t=>decide (t<f.n))=true∧args.length=q.ps.size then (match cmp C n [c] (.code (JC l) q.assign (qP q.assign ⟨mG q.body [],[],[]⟩).2 ⟨mG q.body [],[],[]⟩) (y.round l f q.ps.toList args) (c+1) with
     | some r1=>kG r1 fun lf c=>match lf.e with
      | .norm=>match aj l lf.s.lp with
       | some q1=>if q1.pending.isNone then (match cmp C n [c] (.code (JC l) q.body (qP q.body lv0).2 lv0) (lf.s.aU l { q1 with pending:=some none }) (c+1) with
        | some r2=>match fG lf.s.g false r2 with
         | some r2=>kG r2 fun lf c=>if lf.s.sv.length=y.sv.length+1∧LG lf.s.lp=LG y.lp then (match aj l lf.s.lp with
          | some q2=>some (one .norm (.e .bool (.bool (Px lf.e))) (lf.s.aU l { q2 with pending:=jmp lf.e }).pop c)
          | none=>none) else none
         | none=>none
        | none=>none) else none
       | none=>none
      | _=>none
     | none=>none) else none
    | none=>none
   | none=>none
def Xl (P:Program) (ts:List TypeId):List SV→Option (List (Ty×E))
 | []=>match ts with | []=>some [] | _=>none
 | z::zs=>match ts with
  | t::ts=>match asE (tyD P t) z,Xl P ts zs with
   | some r,some rs=>match r.1.ag with
    | some _=>some (r::rs)
    | none=>none
   | _,_=>none
  | []=>none
def F6:List (Ty×E)→Ty×E
 | []=>(.unit,.zero .unit)
 | [r]=>r
 | r::rs=>match F6 rs with | (t,x)=>(.prod r.1 t,.p2 .pair r.2 x)
def PD:Nat→List Ty→List SV
 | _,[]=>[]
 | i,t::ts=>.e t (.var i)::PD (i+1) ts
def PE (as:List Ty) (nt:Nat):Sy:={ g:=as,rd:=none,n:=nt,ts:=QK 0 (PD 0 as),sv:=[],bx:=[],lp:=[],ow:=[],vc:=[] }
def Vh (lf:Leaf):Leaf:={ lf with s:=OQ (lf.s.vc.map (·.1)) lf.s }
def outT (P:Program) (rs:List ResultVar) (rt:List TypeId) (rty:Ty):List Leaf→Option (List T)
 | []=>some []
 | lf::L=>match resV P lf.s rs with
  | some vs=>match Xl P rt vs with
   | some es=>match F6 es with
    | (t,x)=>if t=rty then (outT P rs rt rty L).map fun ts=>.jump 0 [x]::ts else none
   | none=>none
  | none=>none
def Xm (C:Cx) (fuel:Nat) (g:FuncId) (as:List Ty) (rty:Ty):Option (T×Log) :=
 match C.P.funcs[g]? with
 | some fn=>match fn.body with
  | some cb=>if as.length≤fn.ntmps∧as.all Ty.KU=true then (match cmp C fuel [0] (.code g cb (qP cb (lvF fn.results.toList)).2 (lvF fn.results.toList)) (PE as fn.ntmps) 1 with
   | some r=>match QL r with
    | some r=>match outT C.P fn.results.toList fn.resultTypes.toList rty (r.L.map Vh) with
     | some ts=>some ((r.t.lift 0).sub (fun i=>ts.getD i .fail),r.log)
     | none=>none
    | none=>none
   | none=>none) else none
  | none=>none
 | none=>none
def Y0 (w:Ty) (as:List Ty):Sy:={ g:=.sl w::as,rd:=none,n:=1,ts:=[(0,.vsl nm0)],sv:=[],bx:=[],lp:=[],ow:=[nm0],vc:=[(nm0,(w,.var 0))] }
def JD (y:Sy):Bool:=match y.sv with
 | [f]=>(match lkS 0 f.ts with | .vsl n=>decide (n=nm0) | _=>false)&&decide (LG y.lp=[])
 | _=>false
def CV (P:Program) (rs:List ResultVar) (rt:List TypeId) (w rty:Ty):List Leaf→Option (List T)
 | []=>some []
 | lf::L=>match resV P lf.s rs,aj nm0 lf.s.vc with
  | some vs,some (u,q)=>match Xl P rt vs with
   | some es=>if (F6 es).1=rty∧u=w∧JD lf.s=true then (CV P rs rt w rty L).map fun ts=>.jump 0 [.p2 .pair q (F6 es).2]::ts else none
   | none=>none
  | _,_=>none
def Y1 (C:Cx) (fuel:Nat) (g:FuncId) (w:Ty) (as:List Ty) (rty:Ty):Option (T×Log) :=
 match C.P.funcs[g]? with
 | some fn=>match fn.body with
  | some cb=>if as.length+1≤fn.ntmps∧w.KU=true∧as.all Ty.KU=true then (match cmp C fuel [0] (.code g cb (qP cb (lvF fn.results.toList)).2 (lvF fn.results.toList)) ((Y0 w as).push fn.ntmps (.vsl nm0::PD 1 as)) 1 with
   | some r=>match QL r with
    | some r=>match CV C.P fn.results.toList fn.resultTypes.toList w rty r.L with
     | some ts=>some ((r.t.lift 0).sub (fun i=>ts.getD i .fail),r.log)
     | none=>none
    | none=>none
   | none=>none) else none
  | none=>none
 | none=>none
end Go.Tx
namespace Go.Tx
open Go Go.Ab
section
variable {P:Program} {S:tV} {CS:Calls'} {env:List Val} {y:Sy} {s:Sa} {p:Name}
theorem aH.QK:∀ {xs:List SV} {vs:List V} (i:Nat),aA env xs vs→aH env (Tx.QK i xs) (wU i vs)
 | [],vs,i,h=>by simp only [aA] at h;subst h;rfl
 | x::xs,vs,i,h=>by
  simp only [aA] at h
  obtain ⟨v,vs',rfl,h2,h3⟩:=h
  exact ⟨v,_,rfl,h2,aH.QK (i+1) h3⟩
theorem Inst.push (h:Inst env y s) (n:Nat) {args:List SV} {vs:List V} (ha:aA env args vs):Inst env (y.push n args) (s.push n (wU 0 vs)) :=
 ⟨h.g,rfl,rfl,aH.QK 0 ha,⟨_,_,rfl,h.rd,h.n,h.ts,h.sv⟩,h.bx,h.lp,h.ow,h.vc⟩
theorem Inst.pop (h:Inst env y s):Inst env y.pop s.pop:=by
 unfold Sy.pop Sa.pop
 have:=h.sv
 cases hy:y.sv with
 | nil=>rw [hy] at this;simp only [dZ] at this;rw [this];exact h
 | cons f fs =>
  rw [hy] at this
  simp only [dZ] at this
  obtain ⟨g,l',e,e1,e2,e3,e4⟩:=this
  rw [e]
  exact ⟨h.g,e1,e2,e3,e4,h.bx,h.lp,h.ow,h.vc⟩
theorem Inst.eH (h:Inst env y s) (l:Name) (n:Nat) {args:List SV} {vs:List V} (ha:aA env args vs) (q:Lp):Inst env (y.eH l n args q) (s.eH l n vs q) :=
 ⟨h.g,rfl,rfl,aH.QK 0 ha,⟨_,_,rfl,rfl,h.n,h.ts,h.sv⟩,h.bx,by simp only [Sa.eH,Sy.eH,h.lp],h.ow,h.vc⟩
theorem Inst.dY (h:Inst env y s):Inst env y.dY s.dY:=by
 unfold Sy.dY Sa.dY
 have:=h.sv
 cases hy:y.sv with
 | nil=>rw [hy] at this;simp only [dZ] at this;rw [this];exact h
 | cons f fs =>
  rw [hy] at this
  simp only [dZ] at this
  obtain ⟨g,l',e,e1,e2,e3,e4⟩:=this
  rw [e]
  exact ⟨h.g,rfl,e2,e3,e4,h.bx,by simp only [h.lp],h.ow,h.vc⟩
theorem Inst.bg (h:Inst env y s) (r:Option Name):Inst env (y.bg r) (s.bg r):=by
 unfold Sy.bg Sa.bg
 have:=h.sv
 cases hy:y.sv with
 | nil=>rw [hy] at this;simp only [dZ] at this;rw [this];exact h
 | cons f fs =>
  rw [hy] at this
  simp only [dZ] at this
  obtain ⟨g,l',e,e1,e2,e3,e4⟩:=this
  rw [e]
  exact ⟨h.g,rfl,e2,e3,e4,h.bx,by simp only [h.lp],h.ow,h.vc⟩
theorem Inst.aU (h:Inst env y s) (l:Name) (q:Lp):Inst env (y.aU l q) (Ab.aU s l q) :=
 ⟨h.g,h.rd,h.n,h.ts,h.sv,h.bx,by simp only [Ab.aU,Sy.aU,h.lp],h.ow,h.vc⟩
theorem aH.qE:∀ (ps:List Nat) {xs:List SV} {vs:List V} {l:List (Nat×SV)} {us:List (Nat×V)},aA env xs vs→aH env l us→aH env (Hz ps xs l) (Ab.qE ps vs us)
 | [],xs,vs,l,us,h,hk=>by cases xs <;> cases vs <;> exact hk
 | t::ps,[],vs,l,us,h,hk=>by simp only [aA] at h;subst h;exact hk
 | t::ps,x::xs,vs,l,us,h,hk=>by
  simp only [aA] at h
  obtain ⟨v,vs',rfl,h2,h3⟩:=h
  exact aH.qE ps h3 (hk.set h2)
theorem dZ.get:∀ {xs:List SFr} {vs:List Fr},dZ env xs vs→∀ {i:Nat} {f:SFr},xs[i]? = some f→∃ g,vs[i]? = some g∧g.rd=f.rd∧g.n=f.n∧aH env f.ts g.ts
 | [],vs,h,i,f,hf=>by simp at hf
 | x::xs,vs,h,i,f,hf=>by
  simp only [dZ] at h
  obtain ⟨g,l',rfl,h1,h2,h3,h4⟩:=h
  cases i with
  | zero=>simp at hf;subst hf;exact ⟨g,by simp,h1,h2,h3⟩
  | succ i=>simpa using h4.get (by simpa using hf)
theorem Inst.frames (h:Inst env y s):dZ env (yh y) (Ab.frames s):=⟨_,_,rfl,h.rd,h.n,h.ts,h.sv⟩
theorem Inst.frame (h:Inst env y s) {d:Nat} {f:SFr} (hf:(yh y).reverse[d]? = some f):∃ g,(Ab.frames s).reverse[d]? = some g∧g.n=f.n∧aH env f.ts g.ts:=by
 have hl:=h.frames.len
 obtain ⟨hd,e⟩:=List.getElem?_eq_some_iff.1 hf
 rw [List.getElem_reverse] at e
 simp only [List.length_reverse] at hd
 obtain ⟨g,g1,_,g2,g3⟩:=h.frames.get (i:=(yh y).length - 1 - d) (f:=f) (List.getElem?_eq_some_iff.2 ⟨by omega,e⟩)
 refine ⟨g,?_,g2,g3⟩
 rw [List.getElem?_reverse (by omega),hl];exact g1
theorem Inst.round (h:Inst env y s) (l:Name) {f:SFr} {g:Fr} (hn:g.n=f.n) (hk:aH env f.ts g.ts) (ps:List Nat) {args:List SV} {vs:List V} (ha:aA env args vs):Inst env (y.round l f ps args) (s.round l g ps vs) :=
 ⟨h.g,rfl,hn,aH.qE ps ha hk,⟨_,_,rfl,h.rd,h.n,h.ts,h.sv⟩,h.bx,h.lp,h.ow,h.vc⟩
theorem yx:∀ {rs:List ResultVar} {vs:List SV} {K:List V→Prop},resV P y rs=some vs→Inst env y s→(∀ us,aA env vs us→K us)→Gn P s rs K
 | [],vs,K,h,hI,hK=>by cases h;exact hK [] rfl
 | .tmp t::rs,vs,K,h,hI,hK=>by
  obtain ⟨vs',h1,rfl⟩:=Option.map_eq_some_iff.1 h
  exact yx (K:=fun us=>K (lkT t s.ts::us)) h1 hI fun us hu=>hK _ ⟨_,_,rfl,hI.ts.lk,hu⟩
 | .cell a t::rs,vs,K,h,hI,hK=>by
  simp only [resV] at h
  simp only [Gn]
  split at h
  ·rename_i ag hag
   simp only [hag]
   split at h
   ·rename_i hc
    refine ⟨fun e=>by rcases hc with hc | hc <;> first | exact hc | (rw [e] at hc;cases hc),?_⟩
    split at h
    ·rename_i nm off ha
     have hl:=hI.ts.lk (t:=a)
     rw [ha] at hl
     simp only [ah] at hl
     simp only [hl]
     split at h
     ·rename_i c hc
      obtain ⟨b,e1,e2⟩:=(hI.bx.look (n:=nm)).1 hc
      simp only [e1]
      split at h
      ·rename_i z hz
       obtain ⟨vs',h1,rfl⟩:=Option.map_eq_some_iff.1 h
       obtain ⟨k1,k2⟩:=BZ hz e2
       exact ⟨k2,yx (K:=fun us=>K (bJ ag off (tsz P t) b::us)) h1 hI fun us hu=>hK _ ⟨_,_,rfl,k1,hu⟩⟩
      ·cases h
     ·cases h
    ·cases h
   ·cases h
  ·cases h
theorem PG {xs:List SV} {us:List V} (h:aA env xs us):ah env (Pv xs) (jd us):=by
 match xs,us,h with
 | [],us,h=>simp only [aA] at h;subst h;exact ⟨[],rfl,rfl⟩
 | [x],us,h =>
  simp only [aA] at h
  obtain ⟨v,vs',rfl,h2,rfl⟩:=h
  exact h2
 | x::x' :: xs,us,h =>
  have h':=h
  simp only [aA] at h
  obtain ⟨v,vs',rfl,h2,v2,vs2,rfl,h3,h4⟩:=h
  exact ⟨_,rfl,h'⟩
theorem aH.filter {q:Nat→Bool}:∀ {l:List (Nat×SV)} {us:List (Nat×V)},aH env l us→aH env (l.filter fun x=>q x.1) (us.filter fun x=>q x.1)
 | [],us,h=>by simp only [aH] at h;subst h;rfl
 | (k,x)::l,us,h=>by
  simp only [aH] at h
  obtain ⟨v,us',rfl,h2,h3⟩:=h
  simp only [List.filter_cons]
  split
  ·exact ⟨_,_,rfl,h2,h3.filter⟩
  ·exact h3.filter
theorem uN {q:Nat→Bool} (t:Nat):∀ (us:List (Nat×V)),lkT t (us.filter fun x=>q x.1)=lkT t us∨lkT t (us.filter fun x=>q x.1) = .dead
 | []=>.inl rfl
 | (k,x)::us=>by
  simp only [List.filter_cons]
  split
  ·simp only [lkT]
   split
   ·exact .inl rfl
   ·exact uN t us
  ·rename_i hq
   simp only [lkT]
   split
   ·rename_i e;subst e
    right
    have:∀ (l:List (Nat×V)),lkT k (l.filter fun x=>q x.1) = .dead:=by
     intro l
     induction l with
     | nil=>rfl
     | cons z l ih =>
      obtain ⟨a,b⟩:=z
      simp only [List.filter_cons]
      split
      ·rename_i ha
       simp only [lkT]
       split
       ·rename_i e;subst e;exact absurd ha hq
       ·exact ih
      ·exact ih
    exact this us
   ·exact uN t us
theorem PI (kp:List Nat) (h:Inst env y s):∃ s',Wk s s' ∧ Inst env (Ap kp y) s' :=
 ⟨{ s with ts:=s.ts.filter fun x=>Yi x.1 kp },Wk.of rfl rfl rfl (fun t=>uN (q:=fun t=>Yi t kp) t s.ts) rfl (fun _ _ h=>h) (fun _ h=>h) (fun _ _ h=>⟨h,id⟩),h.g,h.rd,h.n,h.ts.filter (q:=fun t=>Yi t kp),h.sv,h.bx.YQ,h.lp,h.ow,h.vc⟩
theorem qm {lv:Lv} {r:Res} {R:Ex→Sa→Prop} (h:(keepR lv r).t.sat CS noJ (LQ (keepR lv r).L fun lf e=>∀ s',Inst e lf.s s' → R lf.e s') env) :
  r.t.sat CS noJ (LQ r.L fun lf e=>∀ s',Inst e lf.s s' → ∃ s'',Wk s' s'' ∧ R lf.e s'') env:=by
 refine T.bf (fun _ _ h=>h) ?_ h
 rintro i e ⟨lf,h1,h2⟩
 simp only [keepR,List.getElem?_map] at h1
 obtain ⟨lf0,h3,h4⟩:=Option.map_eq_some_iff.1 h1
 subst h4
 refine ⟨lf0,h3,fun s' hs=>?_⟩
 obtain ⟨s2,w2,i2⟩:=PI (aa6 lv lf0.e) hs
 exact ⟨s2,w2,h2 s2 i2⟩
theorem Fj:∀ {bs:Bs} {t:T} {J:Jt} {Q:Nat→List Val→Prop} {env:List Val},(binds bs t).sat CS J Q env=iT CS bs env (fun e=>t.sat CS J Q e)
 | [],t,J,Q,env=>rfl
 | b::bs,t,J,Q,env=>by
  simp only [binds,T.sat,iT]
  congr 1;funext v
  rw [Fj]
theorem yA {k n:Nat} {t:T} {J:Jt} {Q:Nat→List Val→Prop} {env:List Val} (h:(iM k n t).sat CS J Q env):t.sat CS J (fun i e=>i<n∧Q (i+k) e) env:=by
 rw [iM,T.uD] at h
 refine T.bf (fun _ _ h=>h) ?_ h
 intro i e hq
 split at hq
 ·rename_i hi;exact ⟨hi,hq⟩
 ·exact hq.elim
theorem JE {f:Leaf→Nat→Option Res}:∀ {L:List Leaf} {off c:Nat} {ts:List T} {Ls:List Leaf} {c2:Nat} {lg:Log},Tt f L off c=some (ts,Ls,c2,lg) →
  (∀ (i:Nat) (lf:Leaf),L[i]? = some lf→∃ (c1:Nat) (r1:Res) (t1:T),f lf c1=some r1∧ts[i]? = some t1∧∀ {J:Jt} {Q:Leaf→List Val→Prop} {env:List Val},t1.sat CS J (fun h e=>off≤h→LQ Ls Q (h - off) e) env→r1.t.sat CS J (LQ r1.L Q) env) ∧
  (∀ lf' ∈ Ls,∃ lf∈L,∃ (c1:Nat) (r1:Res),f lf c1=some r1∧lf' ∈ r1.L)∧ts.length=L.length
 | [],off,c,ts,Ls,c2,lg,h=>by cases h;exact ⟨fun i lf h=>by simp at h,fun lf h=>by simp at h,rfl⟩
 | lf::L,off,c,ts,Ls,c2,lg,h=>by
  simp only [Tt] at h
  split at h
  ·rename_i r hr
   split at h
   ·rename_i ts' Ls' c2' lg' hc
    cases h
    obtain ⟨k1,k2,k3⟩:=JE hc
    refine ⟨fun i lf' hl=>?_,fun lf' hm=>?_,by simp [k3]⟩
    ·cases i with
     | zero =>
      simp at hl;subst hl
      refine ⟨c,r,_,hr,List.getElem?_cons_zero,fun {J Q env} hs=>?_⟩
      split at hs
      ·rename_i e
       obtain ⟨e1,e2⟩:=e
       have hL:L=[]:=by cases L <;> simp_all
       subst hL;subst e1
       cases hc
       refine T.bf (fun _ _ h=>h) ?_ hs
       intro j e hq
       have:=hq (Nat.zero_le _)
       rw [List.append_nil] at this
       exact this
      ·refine T.bf (fun _ _ h=>h) ?_ (yA hs)
       rintro j e ⟨hj,hq⟩
       obtain ⟨lf2,h2,h3⟩:=hq (by omega)
       rw [Nat.add_sub_cancel,List.getElem?_append_left hj] at h2
       exact ⟨lf2,h2,h3⟩
     | succ i =>
      obtain ⟨c1,r1,t1,e1,e2,e3⟩:=k1 i lf' (by simpa using hl)
      refine ⟨c1,r1,t1,e1,by simpa using e2,fun hs=>e3 (T.bf (fun _ _ h=>h) ?_ hs)⟩
      intro j e hq hle
      obtain ⟨lf2,h2,h3⟩:=hq (by omega)
      rw [List.getElem?_append_right (by omega)] at h2
      exact ⟨lf2,by rw [← h2];congr 1;omega,h3⟩
    ·rcases List.mem_append.1 hm with hm | hm
     ·exact ⟨lf,List.mem_cons_self,c,r,hr,hm⟩
     ·obtain ⟨lf2,h1,c1,r1,h2,h3⟩:=k2 lf' hm
      exact ⟨lf2,List.mem_cons_of_mem _ h1,c1,r1,h2,h3⟩
   ·cases h
  ·cases h
theorem JF {r r' : Res} {f:Leaf→Nat→Option Res} (h:kG r f=some r') :
  (∀ {J:Jt} {Q:Leaf→List Val→Prop} {env:List Val},r'.t.sat CS J (LQ r'.L Q) env→r.t.sat CS J (LQ r.L fun lf e=>∃ (c1:Nat) (r1:Res),f lf c1=some r1∧r1.t.sat CS J (LQ r1.L Q) e) env) ∧
  ∀ lf' ∈ r'.L,∃ lf∈r.L,∃ (c1:Nat) (r1:Res),f lf c1=some r1∧lf' ∈ r1.L:=by
 unfold kG at h
 split at h
 ·rename_i ts Ls c lg hc
  cases h
  obtain ⟨k1,k2,k3⟩:=JE (CS:=CS) hc
  refine ⟨fun {J Q env} hs=>?_,k2⟩
  rw [T.uD] at hs
  refine T.bf (fun _ _ h=>h) ?_ hs
  intro i e hq
  cases hts:ts[i]? with
  | none=>simp [List.getD_eq_getElem?_getD,hts,T.sat] at hq
  | some tt =>
   simp only [List.getD_eq_getElem?_getD,hts,Option.getD_some] at hq
   have hi:i<r.L.length:=by rw [← k3];exact (List.getElem?_eq_some_iff.1 hts).1
   refine ⟨r.L[i],List.getElem?_eq_getElem hi,?_⟩
   obtain ⟨c1,r1,t1,e1,e2,e3⟩:=k1 i _ (List.getElem?_eq_getElem hi)
   rw [hts] at e2;cases e2
   exact ⟨c1,r1,e1,e3 (T.bf (fun _ _ h=>h) (fun _ _ h _=>h) hq)⟩
 ·cases h
end
end Go.Tx
namespace Go.Tx
open Go Go.Ab
section
variable {P:Program} {S:tV} {CS:Calls'} {env:List Val} {y:Sy} {s:Sa} {p:Name}
theorem dF {d:Option Tmp} {z:SV}:(y.put d z).lp=y.lp:=by cases d <;> rfl
theorem sW {i:Name} {sz:Option Nat} {et:Option Ty} {x z:SV} {y' : Sy} (h:y.claim i sz et x=some (z,y')):y'.lp=y.lp:=by
 cases x <;> simp only [Sy.claim,reduceCtorEq] at h
 case nil =>
  split at h
  ·split at h
   ·split at h
    ·cases h;rfl
    ·cases h
   ·cases h
  ·cases h;rfl
 all_goals (cases h;rfl)
theorem PK {d:Nat} {dst:Option Tmp} {sz:Option Nat} {et:Option Ty} {z:SV} {bs:Bs} {y' : Sy} (h:newS y d p dst sz et z=some (bs,y')):y'.lp=y.lp:=by
 unfold newS at h
 split at h
 ·rename_i z' y1 hc
  split at h
  ·cases h;rw [dF];show y1.lp=_;exact sW hc
  ·cases h
 ·cases h
theorem PL {dst:Option Tmp} {t:TypeId} {n:Name} {off:Nat} {v:SV} {bs:Bs} {y' : Sy} (h:ER P y dst t n off v=some (bs,y')):y'.lp=y.lp:=by
 unfold ER at h
 split at h
 ·split at h
  ·rename_i v' y1 hc
   split at h
   ·split at h
    ·split at h
     ·cases h;rw [dF];show y1.lp=_;exact sW hc
     ·cases h
    ·cases h
   ·cases h
  ·cases h
 ·cases h
theorem PN {dst:Option Tmp} {t:TypeId} {n:Name} {off m:Nat} {u:Ty} {i:E} {inn:Nat} {v:SV} {bs:Bs} {y' : Sy} (h:ES P y dst t n off m u i inn v=some (bs,y')):y'.lp=y.lp:=by
 unfold ES at h
 split at h
 ·rename_i w e
  split at h
  ·rename_i b x hb
   split at h
   ·rename_i z hz
    simp only at h
    split at h
    ·split at h
     ·split at h
      ·cases h;rw [dF];rfl
      ·split at h
       ·cases h;rw [dF];rfl
       ·cases h
     ·split at h
      ·split at h
       ·cases hq:(if off=0∧b = .arr m u then some (b,E.var (y.g.length+1)) else (ty2 (.upd off) b (.arr m u)).map fun b'=>(b',E.p2 (.upd off) x (.var (y.g.length+1)))) with
        | none=>rw [hq] at h;cases h
        | some q=>rw [hq] at h;cases h;rw [dF];rfl
       ·cases h
      ·cases h
    ·cases h
   ·cases h
  ·cases h
 ·cases h
theorem LH {dst:Option Tmp} {t u:TypeId} {a b:SV} {bs:Bs} {y' : Sy} (h:xX P p y dst t u a b=some (bs,y')):y'.lp=y.lp:=by
 unfold xX at h
 repeat' (split at h)
 all_goals first
  | (cases h;done)
  | (cases h;rw [dF];rfl)
theorem Xn {o:Oper} {bs:Bs} {y' : Sy} (h:stOp P p y o=some (bs,y')):y'.lp=y.lp:=by
 unfold stOp at h
 simp only at h
 split at h
 ·split at h
  ·split at h
   ·rename_i hc;cases h;rw [dF];exact sW hc
   ·cases h
  ·cases h
 ·split at h
  ·split at h
   ·exact PK h
   ·cases h
  ·cases h
 ·split at h
  ·split at h
   ·exact PK h
   ·cases h
  ·cases h
 ·split at h
  ·exact PL h
  ·exact PN h
  ·cases h
 ·split at h
  ·split at h
   ·split at h
    ·rename_i hc;cases h;rw [dF];exact sW hc
    ·cases h
   ·cases h
  ·cases h
 ·split at h
  ·split at h
   ·split at h
    ·cases h;rw [dF]
    ·cases h
   ·cases h
  ·cases h
 ·split at h
  ·split at h
   ·split at h
    ·cases h;rw [dF]
    ·cases h
   ·cases h
  ·cases h
 ·split at h
  ·split at h
   ·split at h
    ·exact LH h
    ·cases h
   ·cases h
  ·cases h
 ·cases h
theorem TI {o:Oper} {bs:Bs} {y' : Sy} (h:OM P p y o=some (bs,y')):y'.lp=y.lp:=by
 unfold OM at h
 simp only at h
 split at h
 ·cases h;rw [dF];rfl
 split at h
 ·split at h
  ·split at h
   ·split at h
    ·split at h
     ·cases h;rw [dF];rfl
     ·split at h
      ·cases h;rw [dF];rfl
      ·cases h
    ·cases h
   ·cases h
  ·cases h
 ·split at h
  ·split at h
   ·split at h
    ·split at h
     ·split at h
      ·cases h;rw [dF]
      ·cases h
     ·cases h
    ·cases h
   ·cases h
  ·split at h
   ·split at h
    ·split at h
     ·split at h
      ·cases h;rw [dF];rfl
      ·cases h
     ·cases h
    ·cases h
   ·cases h
  ·cases h
 ·cases h
theorem Vj {tb:Tab} {o:Oper} {bs:Bs} {y' : Sy} (h:opS P tb p y o=some (bs,y')):y'.lp=y.lp:=by
 unfold opS at h
 split at h
 ·cases h;rw [dF];rfl
 ·split at h
  ·rename_i r hst
   cases h
   exact Xn hst
  ·exact TI h
theorem Vk {tb:Tab} {o:Oper} {gs:List E} {bs:Bs} {y' : Sy} (h:opG P tb y o gs=some (bs,y')):y'.lp=y.lp:=by
 unfold opG at h
 repeat' (split at h)
 all_goals first | (cases h;done) | (cases h;rw [dF];rfl)
theorem sZ {tb:Tab} {ops:Array Oper} {o:Oper} {bs:Bs} {y' : Sy} (h:vK P tb p ops y o=some (bs,y')):y'.lp=y.lp:=by
 unfold vK at h
 split at h
 ·split at h
  ·exact Vj h
  ·split at h
   ·split at h
    ·split at h
     ·exact Vj h
     ·cases h;rw [dF]
    ·exact Vk h
    ·exact Vk h
    ·cases h;rw [dF]
    ·cases h
   ·cases h
 ·cases h
theorem PO:y.pop.lp=y.lp:=by unfold Sy.pop;split <;> rfl
theorem Fp {r:Option Name} {x:Name×Lp} {l:List (Name×Lp)} (h:y.lp=x::l) (hs:y.sv≠[]):(y.bg r).lp=l:=by
 unfold Sy.bg
 split
 ·simp [h]
 ·contradiction
theorem CW {nm:Name} {q q' : Lp} (h:q'.depth=q.depth∧q'.ps=q.ps∧q'.assign=q.assign∧q'.body=q.body):∀ {l:List (Name×Lp)},aj nm l=some q→lpS (Ab.dh nm q' l)=lpS l
 | [],_=>rfl
 | (n1,q1)::l,hl=>by
  simp only [aj] at hl
  simp only [Ab.dh]
  split at hl
  ·rename_i e;cases hl;rw [if_pos e];simp only [lpS,List.map_cons,e,h]
  ·rename_i e;rw [if_neg e]
   simp only [lpS,List.map_cons]
   have:=CW h hl
   simp only [lpS] at this
   rw [this]
theorem TJ {l l' : List (Name×Lp)} (h:lpS l=lpS l') {nm:Name} {q:Lp} (hq:aj nm l=some q):∃ q',aj nm l' = some q' ∧ q'.depth=q.depth∧q'.ps=q.ps∧q'.assign=q.assign∧q'.body=q.body:=by
 induction l generalizing l' with
 | nil=>cases hq
 | cons x l ih =>
  cases l' with
  | nil=>simp [lpS] at h
  | cons y l' =>
   obtain ⟨x1,x2⟩:=x
   obtain ⟨y1,y2⟩:=y
   simp only [lpS,List.map_cons,List.cons.injEq,Prod.mk.injEq] at h
   obtain ⟨⟨rfl,h2,h3,h4,h5⟩,h6⟩:=h
   simp only [aj] at hq ⊢
   split at hq
   ·rename_i e;rw [if_pos e];cases hq;exact ⟨y2,rfl,h2.symm,h3.symm,h4.symm,h5.symm⟩
   ·rename_i e;rw [if_neg e];exact ih h6 hq
theorem JG {g0:List Ty} {ys:List Sy} {j:Join} (h:WZ g0 ys=some j):∃ y∈ys,j.y.lp=y.lp:=by
 unfold WZ at h
 split at h
 ·cases h
 ·rename_i y rest
  simp only at h
  split at h
  ·cases h
  ·rename_i z zs hz
   cases h
   refine ⟨y,List.mem_cons_self,?_⟩
   rw [List.map_cons,List.map_cons] at hz
   simp only [List.cons.injEq] at hz
   rw [← hz.1]
   exact qN
abbrev WkQ (R:Ex→Sa→Prop):Ex→Sa→Prop:=fun e s=>∃ s',Wk s s' ∧ R e s'
theorem Xo {R:Ex→Sa→Prop} {e:Ex} {s:Sa} (h:WkQ (WkQ R) e s):WkQ R e s:=by
 obtain ⟨s1,w1,s2,w2,h⟩:=h
 exact ⟨s2,jK w1 w2,h⟩
abbrev iV (R:Ex→Sa→Prop):Leaf→List Val→Prop:=fun lf e=>∀ s',Inst e lf.s s' → R lf.e s'
theorem Aq {R R' : Ex→Sa→Prop} (h:∀ e s,R e s→R' e s) {t:T} {L:List Leaf} {J:Jt} (hs:t.sat CS J (LQ L (iV R)) env):t.sat CS J (LQ L (iV R')) env :=
 T.bf (fun _ _ h=>h) (fun i e ⟨lf,h1,h2⟩=>⟨lf,h1,fun s' hs=>h _ _ (h2 s' hs)⟩) hs
theorem Ar {R:Ex→Sa→Prop} {t:T} {L:List Leaf} {J:Jt} (hs:t.sat CS J (LQ L (iV R)) env):t.sat CS J (LQ L (iV (WkQ R))) env :=
 Aq (fun e s h=>⟨s,Wk.refl,h⟩) hs
theorem HY {g0:List Ty} {force:Bool} {rep:Leaf} {r r' : Res} (h:kY g0 force rep r=some r') {base:List (Name×Lp)} (hlp:∀ lf∈r.L,lpS lf.s.lp=lpS base):∀ lf∈r'.L,lpS lf.s.lp=lpS base:=by
 unfold kY at h
 simp only at h
 split at h
 ·cases h;exact hlp
 ·split at h
  ·rename_i j hj
   split at h
   ·split at h
    ·rename_i t L hgl
     cases h
     obtain ⟨y,hy,hyl⟩:=JG hj
     obtain ⟨lf0,hlf0,rfl⟩:=List.mem_map.1 hy
     have h0:=hlp lf0 (List.mem_filter.1 hlf0).1
     have hjl:lpS j.y.lp=lpS base:=by rw [hyl];exact h0
     intro lf hlf
     unfold glue at hgl
     split at hgl
     ·rename_i ts os hsg
      cases hgl
      rcases List.mem_cons.1 hlf with rfl | hlf
      ·exact hjl
      ·exact hlp lf (oV hsg lf hlf)
     ·cases hgl
    ·cases h
   ·cases h
  ·cases h
theorem H6 (hCS:oK CS) {g0:List Ty} {force:Bool} {rep:Leaf} {r r' : Res} (h:kY g0 force rep r=some r') (hg:env.map (·.1)=g0) (hw:dw env) {base:List (Name×Lp)} (hlp:∀ lf∈r.L,lpS lf.s.lp=lpS base) :
  (∀ lf∈r'.L,lpS lf.s.lp=lpS base)∧∀ {R:Ex→Sa→Prop},r'.t.sat CS noJ (LQ r'.L (iV R)) env→r.t.sat CS noJ (LQ r.L (iV (WkQ R))) env:=by
 unfold kY at h
 simp only at h
 split at h
 ·cases h;exact ⟨hlp,Ar⟩
 ·split at h
  ·rename_i j hj
   split at h
   ·rename_i hgj
    split at h
    ·rename_i t L hgl
     cases h
     obtain ⟨y,hy,hyl⟩:=JG hj
     obtain ⟨lf0,hlf0,rfl⟩:=List.mem_map.1 hy
     have h0:=hlp lf0 (List.mem_filter.1 hlf0).1
     have hjl:lpS j.y.lp=lpS base:=by rw [hyl];exact h0
     refine ⟨fun lf hlf=>?_,fun {R} hs=>WV (Q:=fun _ _=>True) hCS hgl (by rw [← hg,List.length_map]) hw (by rw [hgj,hg]) (fun lf hl=>by rw [hlp lf hl,hjl]) hs⟩
     unfold glue at hgl
     split at hgl
     ·rename_i ts os hsg
      cases hgl
      rcases List.mem_cons.1 hlf with rfl | hlf
      ·exact hjl
      ·exact hlp lf (oV hsg lf hlf)
     ·cases hgl
    ·cases h
   ·cases h
  ·cases h
def jX (g0:List Ty) (force:Bool) (acc:Option Res) (rep:Leaf):Option Res:=match acc with | some r=>kY g0 force rep r | none=>none
theorem lH {g0:List Ty} {force:Bool}:∀ (l:List Leaf),l.foldl (jX g0 force) none=none
 | []=>rfl
 | a::l=>lH l
theorem ig (hCS:oK CS) {g0:List Ty} {force:Bool} {r r' : Res} (h:fG g0 force r=some r') (hg:env.map (·.1)=g0) (hw:dw env) {base:List (Name×Lp)} (hlp:∀ lf∈r.L,lpS lf.s.lp=lpS base) :
  (∀ lf∈r'.L,lpS lf.s.lp=lpS base)∧∀ {R:Ex→Sa→Prop},r'.t.sat CS noJ (LQ r'.L (iV R)) env→r.t.sat CS noJ (LQ r.L (iV (WkQ R))) env:=by
 change (classes r.L []).foldl (jX g0 force) (some r)=some r' at h
 generalize classes r.L []=cl at h
 induction cl generalizing r with
 | nil=>cases h;exact ⟨hlp,Ar⟩
 | cons rep cl ih =>
  rw [List.foldl_cons] at h
  cases h1:kY g0 force rep r with
  | none =>
   have e:jX g0 force (some r) rep=none:=h1
   rw [e,lH] at h;cases h
  | some r1 =>
   have e:jX g0 force (some r) rep=some r1:=h1
   rw [e] at h
   obtain ⟨k1,k2⟩:=H6 hCS h1 hg hw hlp
   obtain ⟨g1,g2⟩:=ih k1 h
   exact ⟨g1,fun hs=>Aq (fun e s h=>Xo h) (k2 (g2 hs))⟩
theorem iq {g0:List Ty} {force:Bool} {r r' : Res} (h:fG g0 force r=some r') {base:List (Name×Lp)} (hlp:∀ lf∈r.L,lpS lf.s.lp=lpS base):∀ lf∈r'.L,lpS lf.s.lp=lpS base:=by
 change (classes r.L []).foldl (jX g0 force) (some r)=some r' at h
 generalize classes r.L []=cl at h
 induction cl generalizing r with
 | nil=>cases h;exact hlp
 | cons rep cl ih =>
  rw [List.foldl_cons] at h
  cases h1:kY g0 force rep r with
  | none =>
   have e:jX g0 force (some r) rep=none:=h1
   rw [e,lH] at h;cases h
  | some r1 =>
   have e:jX g0 force (some r) rep=some r1:=h1
   rw [e] at h
   exact ih (HY h1 hlp) h
theorem TK (hCS:oK CS) {b:Code} {yL:Sy} {ps:List Ty} {init:List E} {r:Res} {as:List (List E)} {ts:List T} {os:List Leaf} {ids:List Name} {cv:Cv} (hg:env.map (·.1)=y.g) (hgL:yL.g=y.g++ps) (hw:dw env)
  (hbody:∀ env' s',Inst env' yL s' → dw env' → ∀ R,r.t.sat CS noJ (LQ r.L (iV R)) env' → TC P p b s' R) (hlp:∀ lf∈r.L,lpS lf.s.lp=lpS yL.lp)
  (hsg:sigma y.g.length ids cv yL ⟨.norm,.dead,yL⟩ r.L as 0=some (ts,os)) (hI:Inst env y s) (hnn:∀ lf∈os,vF lf.e=false) (hf:Hr y.g.length init y yL=true) (hlpL:lpS y.lp=lpS yL.lp) {R:Ex→Sa→Prop}
  (hs:(T.loop ps init ((r.t.lift 0).sub fun i=>ts.getD i .fail)).sat CS noJ (LQ os (iV R)) env):TC P p (.loop b) s R:=by
 have hn:env.length=y.g.length:=by rw [← hg,List.length_map]
 simp only [T.sat] at hs
 obtain ⟨n,vs,hv,hrep⟩:=hs
 have hlen:ts.length=r.L.length:=by
  have:∀ {L:List Leaf} {as:List (List E)} {k:Nat} {ts:List T} {os:List Leaf},sigma y.g.length ids cv yL ⟨.norm,.dead,yL⟩ L as k=some (ts,os)→ts.length=L.length:=by
   intro L
   induction L with
   | nil=>intro as k ts os h;cases h;rfl
   | cons x L ih =>
    intro as k ts os h
    simp only [sigma] at h
    split at h
    ·split at h
     ·split at h
      ·obtain ⟨⟨ts',os'⟩,h1,h2⟩:=Option.map_eq_some_iff.1 h
       cases h2;simp [ih h1]
      ·cases h
     ·cases h
    ·obtain ⟨⟨ts',os'⟩,h1,h2⟩:=Option.map_eq_some_iff.1 h
     cases h2;simp [ih h1]
  exact this hsg
 have start:∃ s0,Wk s s0∧Inst (env++vs) yL s0:=by
  have hI' : Inst (env++[]) y s:=by rw [List.append_nil];exact hI
  have hv' : evs (env++[]) init=some vs:=by rw [List.append_nil];exact hv
  refine CG (by rw [hn];exact hf) hlpL hI' hv' ?_
  cases n with
  | zero=>exact hrep.elim
  | succ n=>rw [List.map_append,hrep.1,hg,hgL]
 obtain ⟨s0,w0,i0⟩:=start
 refine TC.weaken w0 ?_
 have hwv:=evs_wf hw hv
 refine Tq (fun (x:{ x:Nat×List Val×Sa // oJ ps (fun again vs=>((r.t.lift 0).sub fun i=>ts.getD i .fail).sat CS (kF again noJ) (LQ os (iV R)) (env++vs)) x.1 x.2.1∧Inst (env++x.2.1) yL x.2.2∧WfL x.2.1 })=>x.1.2.2) (fun x=>x.1.1) ?_ ⟨(n,vs,s0),hrep,i0,hwv⟩
 rintro ⟨⟨n,vs,s1⟩,hrep,hI1,hwv⟩
 simp only at hrep hI1 hwv
 cases n with
 | zero=>exact hrep.elim
 | succ n =>
  obtain ⟨hps,hbd⟩:=hrep
  rw [T.uD,T.nC,nD] at hbd
  have hwe:dw (env++vs):=hw.app hwv
  have hbd2:=T.uF hCS hwe hbd
  refine gJ ?_
  refine hbody (env++vs) s1 hI1 hwe _ ?_
  refine T.bf (fun _ _ h=>h.2) ?_ hbd2
  rintro i e ⟨⟨l,rfl⟩,he,hq⟩
  cases hts:ts[i]? with
  | none=>simp [List.getD_eq_getElem?_getD,hts,T.sat] at hq
  | some tt =>
   simp only [List.getD_eq_getElem?_getD,hts,Option.getD_some] at hq
   have hi:i<r.L.length:=by rw [← hlen];exact (List.getElem?_eq_some_iff.1 hts).1
   refine ⟨r.L[i],List.getElem?_eq_getElem hi,?_⟩
   rcases wz hsg (List.getElem?_eq_getElem hi) with ⟨a,g1,g2,g3⟩ | ⟨j,g1,g2⟩
   ·rw [hts] at g1
    cases g1
    simp only [T.sat] at hq
    obtain ⟨us,hus,hag⟩:=hq
    intro s' hs'
    obtain ⟨s2,w2,i2⟩:=CJ (ids:=ids) (cv:=cv) hs'
    have hrep' : oJ ps (fun again vs=>((r.t.lift 0).sub fun i=>ts.getD i .fail).sat CS (kF again noJ) (LQ os (iV R)) (env++vs)) n us:=hag
    have hgu:(env++us).map (·.1)=yL.g:=by
     rw [List.map_append,hg,hgL]
     cases n with
     | zero=>exact hrep'.elim
     | succ n=>rw [hrep'.1]
    rw [List.append_assoc] at i2 hus
    obtain ⟨s3,w3,i3⟩:=CG (by rw [hn];exact g3) (by rw [wu];exact hlp _ (List.getElem_mem hi)) i2 hus hgu
    refine ⟨s3,jK w2 w3,?_⟩
    simp only at g2
    rw [g2]
    exact ⟨⟨(n,us,s3),hrep',i3,evs_wf (by rw [← List.append_assoc];exact he) hus⟩,Wk.refl,Nat.lt_succ_self n⟩
   ·rw [hts] at g1
    cases g1
    simp only [T.sat] at hq
    obtain ⟨lf,hlf,hR⟩:=hq
    rw [Nat.zero_add] at hlf
    rw [g2] at hlf
    cases hlf
    intro s' hs'
    refine ⟨s',Wk.refl,?_⟩
    have hr:=hR s' hs'
    have hno:=hnn _ (List.mem_iff_getElem?.2 ⟨_,g2⟩)
    split
    ·rename_i e;rw [e] at hno;cases hno
    ·exact hr
end
end Go.Tx
namespace Go.Tx
open Go Go.Ab
section
variable {P:Program} {CS:Calls'} {env:List Val} {y:Sy} {s:Sa} {p:Name}
abbrev aaD (k:V→Sa→Prop):Leaf→List Val→Prop:=fun lf e=>∀ s' v,Inst e lf.s s' → ah e lf.v v→k v s'
def Goal (P:Program) (p:Name):Task→Sa→List Val→Res→Prop
 | .code f cd _ _,s,env,r=>∀ R,r.t.sat (dK P) noJ (LQ r.L (iV R)) env→TC P p cd s R
 | .ops f all l,s,env,r=>∀ k:Sa→Prop,r.t.sat (dK P) noJ (LQ r.L (iV fun _=>k)) env→bG P (lT P) p all l s k
 | .plan f all l,s,env,r=>∀ k:Sa→Prop,r.t.sat (dK P) noJ (LQ r.L (iV fun _=>k)) env→gB P p all l s k
 | .bes f all l2 hb y2 js rest,s,env,r=>∀ (hbs s2:Sa) (k:Sa→Prop),aH env hb.bx hbs.bx→fB env hb.vc hbs.vc→aH env y2.ts s2.ts→r.t.sat (dK P) noJ (LQ r.L (iV fun _=>k)) env →
   Eo P p all l2 hbs (fun q=>lkD (aK all q) s2) js s fun sj=>gB P p all rest (ay all sj (l2.map fun q=>(q,lkD (aK all q) s2))) k
 | .call g args,s,env,r=>∀ vs k,aA env args vs→r.t.sat (dK P) noJ (LQ r.L (aaD k)) env→nP P p g vs s k
 | .yld l args,s,env,r=>∀ vs k,aA env args vs→r.t.sat (dK P) noJ (LQ r.L (aaD k)) env→ZM P p l vs s k
structure Snd (P:Program) (p:Name) (t:Task) (y:Sy) (r:Res):Prop where
 lp:∀ lf∈r.L,lpS lf.s.lp=lpS y.lp
 go:∀ env s,Inst env y s→dw env→Goal P p t s env r
theorem wB {f:Leaf→Leaf} {r:Res} {J:Jt} {Q:Leaf→List Val→Prop} (h:(Lu f r).t.sat CS J (LQ (Lu f r).L Q) env):r.t.sat CS J (LQ r.L fun lf e=>Q (f lf) e) env:=by
 refine T.bf (fun _ _ h=>h) ?_ h
 rintro i e ⟨lf,h1,h2⟩
 simp only [Lu,List.getElem?_map] at h1
 obtain ⟨lf0,h3,rfl⟩:=Option.map_eq_some_iff.1 h1
 exact ⟨lf0,h3,h2⟩
theorem jg {L:List Leaf} {Q Q' : Leaf→List Val→Prop} {J:Jt} {t:T} (h:∀ lf∈L,∀ e,Q lf e→Q' lf e) (hs:t.sat CS J (LQ L Q) env):t.sat CS J (LQ L Q') env :=
 T.bf (fun _ _ h=>h) (fun i e ⟨lf,h1,h2⟩=>⟨lf,h1,h lf (List.mem_iff_getElem?.2 ⟨i,h1⟩) e h2⟩) hs
theorem Y2 {L:List Leaf} {Q:Leaf→List Val→Prop} {t:T} (hw:dw env) (h:t.sat (dK P) noJ (LQ L Q) env):t.sat (dK P) noJ (LQ L fun lf e=>dw e∧Q lf e) env :=
 T.bf (fun j vs h=>h.2) (fun i e ⟨_,hw,lf,h1,h2⟩=>⟨lf,h1,hw,h2⟩) (T.uF dA hw h)
theorem kZ {r r' : Res} {f:Leaf→Nat→Option Res} {Q:Leaf→List Val→Prop} (h:kG r f=some r') (hw:dw env) (hs:r'.t.sat (dK P) noJ (LQ r'.L Q) env) :
  r.t.sat (dK P) noJ (LQ r.L fun lf e=>dw e∧∃ c1 r1,f lf c1=some r1∧r1.t.sat (dK P) noJ (LQ r1.L Q) e) env :=
 Y2 hw ((JF (CS:=dK P) h).1 hs)
theorem jM {r r' : Res} {f:Leaf→Nat→Option Res} (h:kG r f=some r'):∀ lf' ∈ r'.L,∃ lf∈r.L,∃ c1 r1,f lf c1=some r1∧lf' ∈ r1.L :=
 (JF (CS:=fun _ _ _=>False) h).2
theorem jY {e:Ex} {v:SV} {c:Nat} {Q:Leaf→List Val→Prop} {J:Jt} (h:(one e v y c).t.sat CS J (LQ (one e v y c).L Q) env):Q ⟨e,v,y⟩ env:=by
 obtain ⟨lf,h1,h2⟩:=h
 simp [one] at h1
 subst h1;exact h2
theorem lI {e:Ex} {v:SV} {c:Nat} {lf:Leaf} (h:lf∈(one e v y c).L):lf=⟨e,v,y⟩:=by simpa [one] using h
theorem H7 {t1:T} {L1 L2:List Leaf} {Q:Leaf→List Val→Prop} {J:Jt} (h:(iM 0 L1.length t1).sat CS J (LQ (L1++L2) Q) env):t1.sat CS J (LQ L1 Q) env:=by
 refine T.bf (fun _ _ h=>h) ?_ (yA h)
 rintro i e ⟨hi,lf,h1,h2⟩
 rw [Nat.add_zero,List.getElem?_append_left hi] at h1
 exact ⟨lf,h1,h2⟩
theorem H8 {t2:T} {L1 L2:List Leaf} {Q:Leaf→List Val→Prop} {J:Jt} (h:(iM L1.length L2.length t2).sat CS J (LQ (L1++L2) Q) env):t2.sat CS J (LQ L2 Q) env:=by
 refine T.bf (fun _ _ h=>h) ?_ (yA h)
 rintro i e ⟨hi,lf,h1,h2⟩
 rw [List.getElem?_append_right (by omega),Nat.add_sub_cancel] at h1
 exact ⟨lf,h1,h2⟩
theorem qo {lv:Lv} {r:Res} {base:List (Name×Lp)} (h:∀ lf∈r.L,lpS lf.s.lp=lpS base):∀ lf∈(keepR lv r).L,lpS lf.s.lp=lpS base:=by
 intro lf hl
 simp only [keepR,List.mem_map] at hl
 obtain ⟨lf0,h0,rfl⟩:=hl
 exact h lf0 h0
theorem CX {f:Leaf→Leaf} {r:Res} {base:List (Name×Lp)} (hf:∀ lf,(f lf).s=lf.s) (h:∀ lf∈r.L,lpS lf.s.lp=lpS base):∀ lf∈(Lu f r).L,lpS lf.s.lp=lpS base:=by
 intro lf hl
 simp only [Lu,List.mem_map] at hl
 obtain ⟨lf0,h0,rfl⟩:=hl
 rw [hf];exact h lf0 h0
theorem PS {cl:List (Name×Nat×Ty×Bool)} {r:Res} {R:Ex→Sa→Prop} (h:(yu cl r).t.sat CS noJ (LQ (yu cl r).L (iV R)) env):r.t.sat CS noJ (LQ r.L (iV (WkQ R))) env:=by
 refine T.bf (fun _ _ h=>h) ?_ h
 rintro i e ⟨lf,h1,h2⟩
 simp only [yu,List.getElem?_map] at h1
 obtain ⟨lf0,h3,h4⟩:=Option.map_eq_some_iff.1 h1
 subst h4
 refine ⟨lf0,h3,fun s' hs=>?_⟩
 obtain ⟨s2,w2,i2⟩:=xZ (l:=cl) hs
 exact ⟨s2,w2,h2 s2 i2⟩
theorem PU {cl:List (Name×Nat×Ty×Bool)} {r:Res} {base:List (Name×Lp)} (h:∀ lf∈r.L,lpS lf.s.lp=lpS base):∀ lf∈(yu cl r).L,lpS lf.s.lp=lpS base:=by
 intro lf hl
 simp only [yu,List.mem_map] at hl
 obtain ⟨lf0,h0,rfl⟩:=hl
 rw [x9];exact h lf0 h0
theorem Snd.skip {f:FuncId} {lc:LC} {lv:Lv} {c:Nat}:Snd P p (.code f .skip lc lv) y (one .norm .dead y c) :=
 ⟨fun lf h=>by rw [lI h],fun env s hI hw R hs=>Nq (jY hs s hI)⟩
theorem Snd.label {f:FuncId} {lc:LC} {lv:Lv} {c l:Nat}:Snd P p (.code f (.label l) lc lv) y (one .norm .dead y c) :=
 ⟨fun lf h=>by rw [lI h],fun env s hI hw R hs=>RU (jY hs s hI)⟩
theorem Snd.scope {f:FuncId} {b:Code} {lc lb:LC} {lv:Lv} {r:Res} (H:Snd P p (.code f b lb lv) y r):Snd P p (.code f (.scope b) lc lv) y r :=
 ⟨H.lp,fun env s hI hw R hs=>RV (H.go env s hI hw R hs)⟩
theorem Snd.exit {f:FuncId} {lc:LC} {lv:Lv} {c i:Nat}:Snd P p (.code f (.exit i) lc lv) y (one (.exit i) .dead y c) :=
 ⟨fun lf h=>by rw [lI h],fun env s hI hw R hs=>Nr (jY hs s hI)⟩
theorem Snd.ret {f:FuncId} {lc:LC} {lv:Lv} {c:Nat}:Snd P p (.code f .ret lc lv) y (one .ret .dead y c) :=
 ⟨fun lf h=>by rw [lI h],fun env s hI hw R hs=>UQ (jY hs s hI)⟩
theorem Snd.region {f:FuncId} {lc:LC} {lv:Lv} {id:Nat} {ops:Array Oper} {r:Res} {cl:List (Name×Nat×Ty×Bool)} (H:Snd P p (.ops f ops ops.toList) y r) :
  Snd P p (.code f (.region id ops false) lc lv) y (keepR lv (yu cl (Lu (fun lf=>{ lf with e:=.norm }) r))) :=
 ⟨qo (PU (CX (fun _=>rfl) H.lp)),fun env s hI hw R hs=>gJ (gJ (Ee (H.go env s hI hw _ (wB (f:=fun lf=>{ lf with e:=.norm }) (Q:=iV (WkQ (WkQ R))) (PS (qm hs))))))⟩
theorem Snd.draw {f:FuncId} {lc:LC} {lv:Lv} {id:Nat} {ops:Array Oper} {r:Res} {pl:List Seg} (hm:P.follows .mixedOrders=true) (hp:gG ops [] pl=true) {ids:List Name} (H:Snd P p (.plan f ops pl) (kX ids y) r) :
  Snd P p (.code f (.region id ops true) lc lv) y (keepR lv (Lu (fun lf=>{ lf with e:=.norm }) r)) :=
 ⟨qo (CX (fun _=>rfl) fun lf hl=>by rw [H.lp lf hl,qN]),fun env s hI hw R hs=>by
  obtain ⟨s1,w1,i1⟩:=qM (ids:=ids) hI
  exact TC.weaken w1 (gJ (VU pl hm hp (H.go env s1 i1 hw _ (wB (f:=fun lf=>{ lf with e:=.norm }) (Q:=iV (WkQ R)) (qm hs)))))⟩
theorem Snd.seq {f:FuncId} {a b:Code} {lc la lb:LC} {lv lva lvb:Lv} {r r' : Res} {F:Leaf→Nat→Option Res} (H:Snd P p (.code f a la lva) y r) (h:kG r F=some r')
  (hF:∀ lf c r1,lf.e = .norm→F lf c=some r1→Snd P p (.code f b lb lvb) lf.s r1) (hF' : ∀ lf c r1,lf.e ≠ .norm→F lf c=some r1→r1=one lf.e .dead lf.s c) :
  Snd P p (.code f (.seq a b) lc lv) y r':=by
 constructor
 ·intro lf' hl
  obtain ⟨lf,h1,c1,r1,h2,h3⟩:=jM h lf' hl
  by_cases e:lf.e = .norm
  ·rw [(hF lf c1 r1 e h2).lp _ h3];exact H.lp _ h1
  ·have:=hF' lf c1 r1 e h2;subst this
   rw [lI h3];exact H.lp lf h1
 ·intro env s hI hw R hs
  refine UO (H.go env s hI hw _ (jg ?_ (kZ h hw hs)))
  rintro lf hlf e ⟨hwe,c1,r1,h1,h2⟩ s' hs'
  cases he:lf.e with
  | norm=>exact (hF lf c1 r1 he h1).go e s' hs' hwe R h2
  | ret =>
   have:=hF' lf c1 r1 (by rw [he];intro h;cases h) h1;subst this
   have h3:=jY h2 s' hs'
   rw [he] at h3;exact h3
  | exit i =>
   have:=hF' lf c1 r1 (by rw [he];intro h;cases h) h1;subst this
   have h3:=jY h2 s' hs'
   rw [he] at h3;exact h3
theorem TN {cd:Operand} {b:Bool} (hI:Inst env y s) (hc:y.get cd=some (.e .bool (.bool b))):s.get cd = .d (.v (.bool b)):=by
 have:=hI.get hc
 simp only [ah] at this
 obtain ⟨a,h1,h2⟩:=this
 cases h1
 rw [h2,dP]
theorem Snd.Vl {f:FuncId} {cd:Operand} {a b:Code} {lc lc' : LC} {lv:Lv} {r:Res} {w:Bool} (hc:y.get cd=some (.e .bool (.bool w))) (H:Snd P p (.code f (if w then a else b) lc' lv) y r) :
  Snd P p (.code f (.cond cd a b) lc lv) y r :=
 ⟨H.lp,fun env s hI hw R hs=>Gm (TN hI hc) (by
  cases w with
  | true=>simp only [iY];exact H.go env s hI hw R hs
  | false=>simp only [gX];exact H.go env s hI hw R hs)⟩
theorem Snd.cond {f:FuncId} {cd:Operand} {a b:Code} {lc la lb:LC} {lv:Lv} {r1 r2 r:Res} {x:E} {c:Nat} {lg:Log} (hc:y.get cd=some (.e .bool x)) (H1:Snd P p (.code f a la lv) y r1) (H2:Snd P p (.code f b lb lv) y r2)
  (h:fG y.g false (keepR lv ⟨.ite x (iM 0 r1.L.length r1.t) (iM r1.L.length r2.L.length r2.t),r1.L++r2.L,c,lg⟩)=some r):Snd P p (.code f (.cond cd a b) lc lv) y r:=by
 have hlp:∀ lf∈(keepR lv ⟨.ite x (iM 0 r1.L.length r1.t) (iM r1.L.length r2.L.length r2.t),r1.L++r2.L,c,lg⟩).L,lpS lf.s.lp=lpS y.lp :=
  qo fun lf hl=>(List.mem_append.1 hl).elim (H1.lp lf) (H2.lp lf)
 refine ⟨iq h hlp,fun env s hI hw R hs=>?_⟩
 have h1:=qm ((ig dA h hI.g hw hlp).2 hs)
 simp only [T.sat] at h1
 obtain ⟨w,hx,ht,hf⟩:=h1
 have hv:=hI.get hc
 simp only [ah] at hv
 obtain ⟨w',h2,h3⟩:=hv
 rw [hx] at h2;cases h2
 rw [dP] at h3
 refine gJ (gJ (Gm h3 ⟨fun e=>H1.go env s hI hw _ (H7 (ht e)),fun e=>H2.go env s hI hw _ (H8 (hf e))⟩))
theorem Snd.block {f:FuncId} {id:Nat} {b:Code} {lc lb:LC} {lv lvb:Lv} {r r' : Res} (H:Snd P p (.code f b lb lvb) y r)
  (h:fG y.g false (keepR lv (Lu (fun lf=>match lf.e with | .exit i=>if i=id then { lf with e:=.norm } else lf | _=>lf) r))=some r'):Snd P p (.code f (.block id b) lc lv) y r':=by
 have hlp:∀ lf∈(keepR lv (Lu (fun lf=>match lf.e with | .exit i=>if i=id then { lf with e:=.norm } else lf | _=>lf) r)).L,lpS lf.s.lp=lpS y.lp :=
  qo (CX (fun lf=>by
   split
   ·split <;> rfl
   ·rfl) H.lp)
 refine ⟨iq h hlp,fun env s hI hw R hs=>?_⟩
 have h1:=wB (qm ((ig dA h hI.g hw hlp).2 hs))
 refine gJ (gJ (IX (H.go env s hI hw _ (jg ?_ h1))))
 intro lf hlf e hq s' hs'
 cases he:lf.e with
 | norm=>rw [he] at hq;simp only [he] at hq;exact hq s' hs'
 | ret=>rw [he] at hq;simp only [he] at hq;exact hq s' hs'
 | exit i =>
  rw [he] at hq
  simp only at hq
  by_cases e:i=id
  ·rw [if_pos e] at hq
   simp only [if_pos e]
   exact hq s' hs'
  ·rw [if_neg e] at hq
   simp only [if_neg e]
   have:=hq s' hs'
   rw [he] at this
   exact this
theorem H9 {ids:List Name} {cv:Cv}:(uM ids cv y).g=y.g:=by
 have:∀ (ids:List Name) (y:Sy),(kX ids y).g=y.g:=by
  intro ids
  induction ids with
  | nil=>intro y;rfl
  | cons i ids ih=>intro y;exact (ih _).trans OY
 exact this ids y
theorem TR {g0:List Ty} {h:Option Hint}:(Pq g0 h y).1.lp=y.lp:=by
 unfold Pq
 rfl
theorem Snd.loop {f:FuncId} {b:Code} {lc lb:LC} {lv lvb:Lv} {hh:Option Hint} {yL:Sy} {ps:List Ty} {init:List E} {c0:Nat} {r r' : Res} (hhd:yL.lp=y.lp)
  (hf:Hr y.g.length init (uM (MC hh) (hCv hh) y) yL=true) (hgL:yL.g=y.g++ps) (H:Snd P p (.code f b lb lvb) yL r) (h:Xb y.g hh yL ps init c0 (keepR lvb r)=some r'):Snd P p (.code f (.loop b) lc lv) y r':=by
 unfold Xb at h
 have hlpk:=qo (lv:=lvb) H.lp
 split at h
 ·rename_i ts os hsg
  split at h
  ·rename_i hnn
   have hnn' : ∀ lf∈os,vF lf.e=false:=fun lf hl=>by
    have:=(List.all_eq_true.1 hnn) lf hl
    simpa using this
   have hlp:∀ lf∈os,lpS lf.s.lp=lpS y.lp:=fun lf hl=>by rw [← hhd];exact hlpk lf (oV hsg lf hl)
   refine ⟨iq h hlp,fun env s hI hw R hs=>?_⟩
   obtain ⟨s1,w1,i1⟩:=CJ (ids:=MC hh) (cv:=hCv hh) hI
   refine gJ (TC.weaken w1 (TK (y:=uM (MC hh) (hCv hh) y) dA i1.g (by rw [H9];exact hgL) hw (r:=keepR lvb r) ?_ hlpk (by rw [H9];exact hsg) i1 hnn' (by rw [H9];exact hf) (by rw [hhd,wu]) ((ig dA h hI.g hw hlp).2 hs)))
   intro env' s' hI' hw' R' hs'
   exact gJ (H.go env' s' hI' hw' _ (qm hs'))
  ·cases h
 ·have hlp:∀ lf∈((keepR lvb r).L.filter fun lf=>!vF lf.e),lpS lf.s.lp=lpS y.lp:=fun lf hl=>by rw [← hhd];exact hlpk lf (List.mem_filter.1 hl).1
  refine ⟨iq h hlp,fun env s hI hw R hs=>?_⟩
  have:=(ig dA h hI.g hw hlp).2 hs
  exact this.elim
end
end Go.Tx
namespace Go.Tx
open Go Go.Ab
section
variable {P:Program} {CS:Calls'} {env:List Val} {y:Sy} {s:Sa} {p:Name}
theorem lq (hCS:oK CS):∀ {bs:Bs} {env:List Val} {F:List Val→Prop},dw env→iT CS bs env F→iT CS bs env fun e=>dw e∧F e
 | [],env,F,hw,h=>⟨hw,h⟩
 | b::bs,env,F,hw,h=>by
  simp only [iT] at h ⊢
  obtain ⟨v,h1,h2,h3⟩:=h
  exact ⟨v,h1,h2,lq hCS (hw.snoc (B.RZ hCS hw h2)) h3⟩
theorem CY {d:Option Tmp} (h:zh y.n d=true) (hn:s.n=y.n):∀ t,d=some t→t<s.n:=by
 intro t e
 subst e
 simp only [zh,decide_eq_true_eq] at h
 rw [hn];exact h
theorem Snd.abj {f:FuncId} {all:Array Oper} {c:Nat}:Snd P p (.ops f all []) y (one .norm .dead y c) :=
 ⟨fun lf h=>by rw [lI h],fun env s hI hw k hs=>jY hs s hI⟩
theorem nI {bs:Bs} {r:Res} {Q:Leaf→List Val→Prop} (hw:dw env) (hs:(binds bs r.t).sat (dK P) noJ (LQ r.L Q) env):iT (dK P) bs env fun e=>dw e∧r.t.sat (dK P) noJ (LQ r.L Q) e:=by
 rw [Fj] at hs
 exact lq dA hw hs
theorem Snd.abk {f:FuncId} {tb:Tab} {all:Array Oper} {o:Oper} {l:List Oper} {bs:Bs} {y1:Sy} {r:Res} (h:vK P tb p all y o=some (bs,y1)) (H:Snd P p (.ops f all l) y1 r) :
  Snd P p (.ops f all (o::l)) y { r with t:=binds bs r.t } :=
 ⟨fun lf hl=>by rw [H.lp lf hl,sZ h],fun env s hI hw k hs=>by
  refine sS uG hI hw h ?_
  refine bI ?_ (nI hw hs)
  rintro e ⟨hwe,hq⟩ s' hs'
  exact H.go e s' hs' hwe k hq⟩
theorem yB {C:Cx} {rec:Name→Task→Sy→Nat→Option Res} (H:∀ p t y c r,rec p t y c=some r→Snd C.P p t y r) {f:FuncId} {all:Array Oper} {rest:List Oper} {o:Oper} {c:Nat} {r:Res} (h:vG C rec p f all rest o y c=some r) :
  (∀ lf∈r.L,lpS lf.s.lp=lpS y.lp)∧∀ env s,Inst env y s→dw env→∀ k:Sa→Prop,r.t.sat (dK C.P) noJ (LQ r.L (iV fun _=>k)) env→aQ C.P (lT C.P) p o s fun s'=>bG C.P (lT C.P) p all rest s' k:=by
 unfold vG at h
 split at h
 ·rename_i cl hop
  split at h
  ·rename_i fv hcl
   split at h
   ·rename_i z args hz hargs
    simp only at h
    have fin:∀ {t:Task} {r0:Res},Snd C.P (o.dst.getD 0::p) t y r0→kG r0 (fun lf c=>if zh lf.s.n o.dst=true then rec p (.ops f all rest) (lf.s.put o.dst lf.v) c else none)=some r →
      (∀ lf∈r.L,lpS lf.s.lp=lpS y.lp)∧∀ env,dw env→∀ k:Sa→Prop,r.t.sat (dK C.P) noJ (LQ r.L (iV fun _=>k)) env →
       r0.t.sat (dK C.P) noJ (LQ r0.L (aaD fun v s'=>(∀ d,o.dst=some d→d<s'.n)∧bG C.P (lT C.P) p all rest (s'.put o.dst v) k)) env:=by
     intro t r0 h0 h
     constructor
     ·intro lf' hl
      obtain ⟨lf,h1,c1,r1,h2,h3⟩:=jM h lf' hl
      split at h2
      ·rw [(H _ _ _ _ _ h2).lp _ h3,dF];exact h0.lp lf h1
      ·cases h2
     ·intro env hw k hs
      refine jg ?_ (kZ h hw hs)
      rintro lf hlf e ⟨hwe,c1,r1,h1,h2⟩ s' v hs' hv
      split at h1
      ·rename_i hd
       exact ⟨CY hd hs'.n,(H _ _ _ _ _ h1).go e _ (hs'.put o.dst hv) hwe k h2⟩
      ·cases h1
    have hgets:∀ {env s},Inst env y s→aA env args (cl.args.toList.map s.get):=fun hI=>mF (fun o x hx=>hI.get hx) hargs
    split at h
    ·rename_i r0 hr0
     split at hr0
     ·rename_i g x
      split at hr0
      ·rename_i hcal
       have h0:=H _ _ _ _ _ hr0
       obtain ⟨k1,k2⟩:=fin h0 h
       refine ⟨k1,fun env s hI hw k hs=>?_⟩
       have hv:=hI.get hz
       simp only [ah] at hv
       obtain ⟨a,e1,e2⟩:=hv
       simp only [aQ,hop,hcl,e2]
       exact ⟨hcal,h0.go env s hI hw _ _ (hgets hI) (k2 env hw k hs)⟩
      ·cases hr0
     ·rename_i g cap
      split at hr0
      ·rename_i hcal
       have h0:=H _ _ _ _ _ hr0
       obtain ⟨k1,k2⟩:=fin h0 h
       refine ⟨k1,fun env s hI hw k hs=>?_⟩
       have hv:=hI.get hz
       simp only [ah] at hv
       obtain ⟨c',e1,e2⟩:=hv
       simp only [aQ,hop,hcl,e1]
       exact ⟨hcal,h0.go env s hI hw _ _ ((hgets hI).append e2) (k2 env hw k hs)⟩
      ·cases hr0
     ·rename_i l
      have h0:=H _ _ _ _ _ hr0
      obtain ⟨k1,k2⟩:=fin h0 h
      refine ⟨k1,fun env s hI hw k hs=>?_⟩
      have hv:=hI.get hz
      simp only [ah] at hv
      simp only [aQ,hop,hcl,hv]
      exact h0.go env s hI hw _ _ (hgets hI) (k2 env hw k hs)
     ·cases hr0
    ·cases h
   ·cases h
  ·cases h
 ·cases h
end
end Go.Tx
namespace Go.Tx
open Go Go.Ab
section
variable {P:Program} {CS:Calls'} {env:List Val} {y:Sy} {s:Sa} {p:Name}
theorem aH.aaE {κ:Type} {f:SV→SV} (hf:∀ x v,ah env x v→ah env (f x) v):∀ {xs:List (κ×SV)} {vs:List (κ×V)},aH env xs vs→aH env (xs.map fun x=>(x.1,f x.2)) vs
 | [],vs,h=>by simp only [aH] at h;subst h;rfl
 | (k,x)::xs,vs,h=>by
  simp only [aH] at h
  obtain ⟨v,vs',rfl,h2,h3⟩:=h
  exact ⟨v,vs',rfl,hf _ _ h2,h3.aaE hf⟩
theorem TS {g:E} (hg:g.val env=some ⟨.bool,true⟩) (hI:Inst env y s):Inst env (Xi g y) s :=
 ⟨hI.g,hI.rd,hI.n,hI.ts.aaE (fun x v h=>Ag (by simp [holds,hg]) h),hI.sv,hI.bx,hI.lp,hI.ow,hI.vc⟩
theorem TT {g:E} (hg:g.val env=some ⟨.bool,false⟩) {z:SV} {v:V} (h:ah env z v):ah env (Xj g z) v:=by
 unfold Xj
 split
 ·rename_i gs x
  split
  ·rename_i ha
   simp only [ah] at h
   obtain ⟨b,h1,h2,h3,h4⟩:=h
   obtain ⟨g',hm,hs⟩:=List.any_eq_true.1 ha
   have e:=E.same_eq hs
   subst e
   cases b with
   | true=>have:=EX h1 _ hm;rw [hg] at this;cases this
   | false=>rw [h4 rfl];exact ⟨[],rfl,rfl⟩
  ·exact h
 ·exact h
theorem TU {g:E} (hg:g.val env=some ⟨.bool,false⟩) (hI:Inst env y s):Inst env (Xk g y) s :=
 ⟨hI.g,hI.rd,hI.n,hI.ts.aaE (fun x v h=>TT hg h),hI.sv,hI.bx,hI.lp,hI.ow,hI.vc⟩
theorem JH {t:Nat} {b:Bool} (hI:Inst env y s) (hl:lkT t s.ts = .d (.v (.bool b))):Inst env { y with ts:=NY t (.e .bool (.bool b)) y.ts } s:=by
 have h:=hI.put (some t) (x:=.e .bool (.bool b)) (v:=.d (.v (.bool b))) (by simp only [ah];exact ⟨b,rfl,by rw [dP]⟩)
 rw [nH hl (by simp)] at h
 exact h
theorem Snd.aaF {C:Cx} {rec:Name→Task→Sy→Nat→Option Res} (H:∀ p t y c r,rec p t y c=some r→Snd C.P p t y r) {f:FuncId} {all:Array Oper} {rest:List Oper} {o:Oper} {c:Nat} {r:Res} (hd:zh y.n o.dst=true) (hg:o.guard=none)
  (h:vG C rec p f all rest o y c=some r):Snd C.P p (.ops f all (o::rest)) y r:=by
 obtain ⟨h1,h2⟩:=yB H h
 refine ⟨h1,fun env s hI hw k hs=>?_⟩
 show bG C.P (lT C.P) p all (o::rest) s k
 simp only [bG,hg]
 refine ⟨?_,h2 env s hI hw k hs⟩
 split
 ·exact CY hd hI.n _ ‹_›
 ·trivial
theorem Snd.Y3 {C:Cx} {rec:Name→Task→Sy→Nat→Option Res} (H:∀ p t y c r,rec p t y c=some r→Snd C.P p t y r) {f:FuncId} {all:Array Oper} {rest:List Oper} {o:Oper} {c:Nat} {r:Res} {j:Nat} {want:Bool} {t:Tmp} (hd:zh y.n o.dst=true) (hg:o.guard=some (j,want)) (ht:(all[j]?).bind (·.dst)=some t) (hk:lkS t y.ts = .e .bool (.bool want))
  (h:vG C rec p f all rest o y c=some r):Snd C.P p (.ops f all (o::rest)) y r:=by
 obtain ⟨h1,h2⟩:=yB H h
 refine ⟨h1,fun env s hI hw k hs=>?_⟩
 show bG C.P (lT C.P) p all (o::rest) s k
 have hlk:=hI.ts.lk (t:=t)
 rw [hk] at hlk
 simp only [ah] at hlk
 obtain ⟨a,e1,e2⟩:=hlk
 cases e1
 rw [dP] at e2
 simp only [bG,hg,ht,e2]
 refine ⟨by
  split
  ·exact CY hd hI.n _ ‹_›
  ·trivial,?_⟩
 have:=h2 env s hI hw k hs
 cases want with
 | true=>simp only [iY,if_true];rw [nH e2 (by simp)];exact this
 | false=>simp only [gX,Bool.false_eq_true,if_false];rw [nH e2 (by simp)];exact this
theorem Snd.Y4 {C:Cx} {rec:Name→Task→Sy→Nat→Option Res} (H:∀ p t y c r,rec p t y c=some r→Snd C.P p t y r) {f:FuncId} {all:Array Oper} {rest:List Oper} {o:Oper} {c c2 c3:Nat} {lg:Log} {r1 r2:Res} {j:Nat} {want:Bool} {t:Tmp} {x:E} (hd:zh y.n o.dst=true) (hg:o.guard=some (j,want)) (ht:(all[j]?).bind (·.dst)=some t) (hk:lkS t y.ts = .e .bool x)
  (h1:vG C rec p f all rest o (Xi (if want then x else .p1 .not x) { y with ts:=NY t (.e .bool (.bool want)) y.ts }) c=some r1)
  (h2:rec p (.ops f all rest) ((Xk (if want then x else .p1 .not x) { y with ts:=NY t (.e .bool (.bool !want)) y.ts }).put o.dst (.tup [])) c2=some r2) :
  Snd C.P p (.ops f all (o::rest)) y ⟨if want then .ite x (iM 0 r1.L.length r1.t) (iM r1.L.length r2.L.length r2.t) else .ite x (iM r1.L.length r2.L.length r2.t) (iM 0 r1.L.length r1.t),r1.L++r2.L,c3,lg⟩:=by
 obtain ⟨k1,k2⟩:=yB H h1
 have H2:=H _ _ _ _ _ h2
 constructor
 ·intro lf hl
  rcases List.mem_append.1 hl with hl | hl
  ·rw [k1 lf hl];rfl
  ·rw [H2.lp lf hl,dF];rfl
 ·intro env s hI hw k hs
  show bG C.P (lT C.P) p all (o::rest) s k
  have hlk:=hI.ts.lk (t:=t)
  rw [hk] at hlk
  simp only [ah] at hlk
  obtain ⟨b,hx,e2⟩:=hlk
  rw [dP] at e2
  simp only [bG,hg,ht,e2]
  refine ⟨by
   split
   ·exact CY hd hI.n _ ‹_›
   ·trivial,?_⟩
  have yes:b=want→r1.t.sat (dK C.P) noJ (LQ r1.L (iV fun _=>k)) env→aQ C.P (lT C.P) p o s fun s'=>bG C.P (lT C.P) p all rest s' k:=fun e h=>by
   refine k2 env s (TS ?_ (JH hI (by rw [e2,e]))) hw k h
   rw [oU want hx,e];simp
  have no:b=(!want)→r2.t.sat (dK C.P) noJ (LQ r2.L (iV fun _=>k)) env→bG C.P (lT C.P) p all rest (s.put o.dst (.tup [])) k:=fun e h=>by
   refine H2.go env _ ((TU ?_ (JH hI (by rw [e2,e]))).put o.dst ⟨[],rfl,rfl⟩) hw k h
   rw [oU want hx,e];cases want <;> simp
  have hps:=nH e2 (by simp)
  cases want with
  | true =>
   simp only [if_true,T.sat] at hs
   obtain ⟨b',h3,h4,h5⟩:=hs
   rw [hx] at h3;cases h3
   cases b with
   | true=>simp only [iY,if_true];rw [hps];exact yes rfl (H7 (h4 rfl))
   | false=>simp only [gX,if_true];rw [hps];exact no rfl (H8 (h5 rfl))
  | false =>
   simp only [Bool.false_eq_true,if_false,T.sat] at hs
   obtain ⟨b',h3,h4,h5⟩:=hs
   rw [hx] at h3;cases h3
   cases b with
   | true=>simp only [iY,Bool.false_eq_true,if_false];rw [hps];exact no rfl (H8 (h4 rfl))
   | false=>simp only [gX,Bool.false_eq_true,if_false];rw [hps];exact yes rfl (H7 (h5 rfl))
theorem mJ:∀ {z:SV} {v:V},qQ z=true→ah env z v→v.notNil=true
 | .nil,v,h,_=>by cases h
 | .gd gs x,v,h,hv=>by
  simp only [qQ] at h
  simp only [ah] at hv
  obtain ⟨b,h1,h2,h3,h4⟩:=hv
  cases b with
  | true=>exact mJ h (h3 rfl)
  | false=>rw [h4 rfl];rfl
 | .e t x,v,_,hv=>by simp only [ah] at hv;obtain ⟨a,_,rfl⟩:=hv;rfl
 | .own _ _ _ _,v,_,hv=>by simp only [ah] at hv;obtain ⟨a,_,_,rfl⟩:=hv;rfl
 | .ptr _ _,v,_,hv=>by simp only [ah] at hv;subst hv;rfl
 | .aptr _ _ _ _ _ _,v,_,hv=>by simp only [ah] at hv;obtain ⟨k,j,_,_,_,rfl⟩:=hv;rfl
 | .ref _ _ _,v,_,hv=>by simp only [ah] at hv;obtain ⟨a,cs,_,rfl,_⟩:=hv;rfl
 | .fn _ _,v,_,hv=>by simp only [ah] at hv;obtain ⟨c,rfl,_⟩:=hv;rfl
 | .yld _,v,_,hv=>by simp only [ah] at hv;subst hv;rfl
 | .mref _,v,_,hv=>by simp only [ah] at hv;subst hv;rfl
 | .mpc _ _ _,v,_,hv=>by simp only [ah] at hv;obtain ⟨a,kvs,_,rfl,_⟩:=hv;rfl
 | .agg _,v,_,hv=>by simp only [ah] at hv;obtain ⟨c,rfl,_⟩:=hv;rfl
 | .mix _ _ _ _,v,_,hv=>by simp only [ah] at hv;obtain ⟨a,c,_,rfl,_⟩:=hv;rfl
 | .tup _,v,_,hv=>by simp only [ah] at hv;obtain ⟨c,rfl,_⟩:=hv;rfl
 | .kd _,v,_,hv=>by simp only [ah] at hv;subst hv;rfl
 | .vsl _,v,_,hv=>by simp only [ah] at hv;subst hv;rfl
 | .vpt _ _ _ _,v,_,hv=>by simp only [ah] at hv;obtain ⟨k,j,_,_,rfl⟩:=hv;rfl
 | .dead,v,_,hv=>by simp only [ah] at hv;subst hv;rfl
theorem Au {x:Operand} (h:yj (y.get x)=true) (hI:Inst env y s):(s.get x).notNil=true:=by
 cases hx:y.get x with
 | none=>rw [hx] at h;cases h
 | some z=>rw [hx] at h;exact mJ h (hI.get hx)
theorem Fq {o:Op} (h:Py y o=true) (hI:Inst env y s):uo s o=true:=by
 cases o <;> first | rfl | exact Au h hI
theorem uO {C:Cx} {all:Array Oper}:∀ {l:List Nat} {y:Sy} {bs:Bs} {y1:Sy},Fg C p all l y=some (bs,y1)→y1.lp=y.lp
 | [],y,bs,y1,h=>by cases h;rfl
 | i::l,y,bs,y1,h=>by
  simp only [Fg] at h
  split at h
  ·split at h
   ·split at h
    ·rename_i bs1 y2 h1
     split at h
     ·rename_i bs2 y3 h2
      cases h
      rw [uO h2,sZ h1]
     ·cases h
    ·cases h
   ·cases h
  ·cases h
theorem uP {C:Cx} {all:Array Oper} {k:Sa→Prop}:∀ {l:List Nat} {y:Sy} {bs:Bs} {y1:Sy} {s:Sa} {env:List Val},Fg C p all l y=some (bs,y1)→Inst env y s→dw env →
  iT (dK C.P) bs env (fun e=>∀ s',Inst e y1 s' → k s')→y9 C.P p all l s k
 | [],y,bs,y1,s,env,h,hI,hw,hb=>by cases h;exact hb s hI
 | i::l,y,bs,y1,s,env,h,hI,hw,hb=>by
  simp only [Fg] at h
  split at h
  ·rename_i o ho
   split at h
   ·rename_i hn
    split at h
    ·rename_i bs1 y2 h1
     split at h
     ·rename_i bs2 y3 h2
      cases h
      rw [kV] at hb
      simp only [y9,ho]
      refine ⟨Fq hn hI,sS xQ hI hw h1 ?_⟩
      refine bI ?_ (lq dA hw hb)
      rintro e ⟨hwe,hq⟩ s' hs'
      exact uP h2 hs' hwe hq
     ·cases h
    ·cases h
   ·cases h
  ·cases h
theorem Snd.abl {f:FuncId} {all:Array Oper} {c:Nat}:Snd P p (.plan f all []) y (one .norm .dead y c) :=
 ⟨fun lf h=>by rw [lI h],fun env s hI hw k hs=>jY hs s hI⟩
theorem Snd.aaG {C:Cx} {f:FuncId} {all:Array Oper} {g:List Nat} {rest:List Seg} {bs:Bs} {y1:Sy} {r:Res} (h:Fg C p all g y=some (bs,y1)) (H:Snd C.P p (.plan f all rest) y1 r) :
  Snd C.P p (.plan f all (.calm g::rest)) y { r with t:=binds bs r.t } :=
 ⟨fun lf hl=>by rw [H.lp lf hl,uO h],fun env s hI hw k hs=>by
  refine uP h hI hw ?_
  refine bI ?_ (nI hw hs)
  rintro e ⟨hwe,hq⟩ s' hs'
  exact H.go e s' hs' hwe k hq⟩
theorem Snd.abm {f:FuncId} {all:Array Oper} {i:Nat} {o:Oper} {rest:List Seg} {r r' : Res} {F:Leaf→Nat→Option Res} (ho:all[i]? = some o) (H:Snd P p (.ops f all [o]) y r) (h:kG r F=some r')
  (hF:∀ lf c r1,F lf c=some r1→Snd P p (.plan f all rest) lf.s r1):Snd P p (.plan f all (.bar i::rest)) y r':=by
 constructor
 ·intro lf' hl
  obtain ⟨lf,h1,c1,r1,h2,h3⟩:=jM h lf' hl
  rw [(hF lf c1 r1 h2).lp _ h3];exact H.lp _ h1
 ·intro env s hI hw k hs
  show gB P p all (.bar i::rest) s k
  simp only [gB,ho]
  refine H.go env s hI hw _ (jg ?_ (kZ h hw hs))
  rintro lf hlf e ⟨hwe,c1,r1,h1,h2⟩ s' hs'
  exact (hF lf c1 r1 h1).go e s' hs' hwe k h2
theorem Snd.Y5 {C:Cx} {f:FuncId} {all:Array Oper} {g:List Nat} {i j:Nat} {oi oj:Oper} {t:Tmp} {ty ty' : TypeId} {a x:Operand} {rest:List Seg} {bs bs2 bs3:Bs} {y1 y2 y3:Sy} {r:Res} (hi:all[i]? = some oi) (hj:all[j]? = some oj) (ht:oi.dst=some t) (hop:oi.op = .alloc ty) (hst:oj.op = .store ty' a x)
  (hr:y.refs (t::p)=false) (hz:(aX C.P ty).notNil=true) (h1:Fg C p all g y=some (bs,y1)) (hx:yj (y1.get x)=true) (h2:vK C.P C.tb p all y1 oi=some (bs2,y2)) (h3:vK C.P C.tb p all y2 oj=some (bs3,y3)) (H:Snd C.P p (.plan f all rest) y3 r) :
  Snd C.P p (.plan f all (.fresh g i j::rest)) y { r with t:=binds (bs++(bs2++bs3)) r.t } :=
 ⟨fun lf hl=>by rw [H.lp lf hl,sZ h3,sZ h2,uO h1],fun env s hI hw k hs=>by
  show gB C.P p all (.fresh g i j::rest) s k
  simp only [gB,hi,hj,ht,hop,hst]
  refine ⟨hI.refs hr,hz,uP h1 hI hw ?_⟩
  have h0:=nI hw hs
  rw [kV] at h0
  refine bI ?_ (lq dA hw h0)
  rintro e ⟨hwe,hq⟩ s1 hs1
  refine ⟨Au hx hs1,sS uG hs1 hwe h2 ?_⟩
  rw [kV] at hq
  refine bI ?_ (lq dA hwe hq)
  rintro e2 ⟨hwe2,hq2⟩ s2 hs2
  refine sS uG hs2 hwe2 h3 ?_
  refine bI ?_ hq2
  rintro e3 ⟨hwe3,hq3⟩ s3 hs3
  exact H.go e3 s3 hs3 hwe3 k hq3⟩
end
end Go.Tx
namespace Go.Tx
open Go Go.Ab
section
variable {P:Program} {CS:Calls'} {env:List Val} {y:Sy} {s:Sa} {p:Name} {all:Array Oper}
theorem mM {CS:Calls'}:∀ {bs:Bs} {env:List Val} {Q:List Val→Prop},iT CS bs env Q→iT CS bs env fun e=>(∃ l,e=env++l)∧Q e
 | [],env,Q,h=>⟨⟨[],by simp⟩,h⟩
 | b::bs,env,Q,h=>by
  obtain ⟨v,h0,h1,h2⟩:=h
  refine ⟨v,h0,h1,bI ?_ (mM h2)⟩
  rintro e ⟨⟨l,rfl⟩,hq⟩
  exact ⟨⟨v::l,by simp⟩,hq⟩
theorem aH.CZ {κ:Type} {env:List Val} {f:κ→Bool}:∀ {xs:List (κ×SV)} {vs:List (κ×V)},aH env xs vs→aH env (xs.filter fun x=>f x.1) (vs.filter fun x=>f x.1)
 | [],vs,h=>by simp only [aH] at h;subst h;simp [aH]
 | (k,x)::xs,vs,h=>by
  simp only [aH] at h
  obtain ⟨v,l,rfl,h1,h2⟩:=h
  simp only [List.filter_cons]
  split
  ·exact ⟨v,_,rfl,h1,h2.CZ⟩
  ·exact h2.CZ
theorem Inst.hide {H:List Name} (h:Inst env y s):Inst env (LD H y) (hide H s) :=
 ⟨h.g,h.rd,h.n,h.ts,h.sv,h.bx.CZ (f:=fun n=>!H.contains n),h.lp,h.ow,h.vc.filter (q:=fun n=>!H.contains n)⟩
def qR (env:List Val) (z:DK) (x:Eff):Prop:=x.i=z.i∧ah env z.z x.v∧aH env z.w x.w∧fB env z.wv x.wv
theorem qR.app {z:DK} {x:Eff} (l:List Val) (h:qR env z x):qR (env++l) z x:=⟨h.1,h.2.1.app l,h.2.2.1.app l,h.2.2.2.app l⟩
def qp (env:List Val):List DK→List Eff→Prop
 | [],L=>L=[]
 | z::zs,L=>∃ x L',L=x::L' ∧ qR env z x∧qp env zs L'
theorem qp.mem:∀ {zs:List DK} {L:List Eff},qp env zs L→∀ x∈L,∃ z∈zs,qR env z x
 | [],L,h,x,hx=>by simp only [qp] at h;subst h;cases hx
 | z::zs,L,h,x,hx=>by
  obtain ⟨x',L',rfl,h1,h2⟩:=h
  rcases List.mem_cons.1 hx with rfl | hx
  ·exact ⟨z,List.mem_cons_self,h1⟩
  ·obtain ⟨z',h3,h4⟩:=h2.mem x hx
   exact ⟨z',List.mem_cons_of_mem _ h3,h4⟩
theorem jy {bs:Bs} {e:DK} {r:Option (Bs×List DK×Sy)} {bs' : Bs} {L:List DK} {y' : Sy} (h:Pz bs e r=some (bs',L,y')):∃ bs2 L2,r=some (bs2,L2,y')∧bs' = bs++bs2∧L=e::L2:=by
 cases r with
 | none=>cases h
 | some q=>obtain ⟨a,b,c⟩:=q;cases h;exact ⟨a,b,rfl,rfl,rfl⟩
theorem Xp {d:Option Tmp} (h:Inst env y s):ah env (Vg d y) (lkD d s):=by
 cases d with
 | none=>rfl
 | some t=>exact h.ts.lk
theorem yC {C:Cx} {H:Nat→List Name}:∀ {l:List Nat} {y:Sy} {bs:Bs} {L:List DK} {y1:Sy},QM C p all H l y=some (bs,L,y1)→y1.lp=y.lp
 | [],y,bs,L,y1,h=>by cases h;rfl
 | i::l,y,bs,L,y1,h=>by
  simp only [QM] at h
  split at h
  ·rename_i o ho
   split at h
   ·split at h
    ·split at h
     ·split at h
      ·obtain ⟨bs2,L2,h1,_,_⟩:=jy h
       rw [yC h1,dF]
      ·cases h
     ·cases h
    ·cases h
   ·split at h
    ·split at h
     ·split at h
      ·obtain ⟨bs2,L2,h1,_,_⟩:=jy h
       rw [yC h1]
      ·cases h
     ·cases h
    ·split at h
     ·rename_i bs1 y2 w1 e1 h2
      split at h
      ·obtain ⟨bs2,L2,h1,_,_⟩:=jy h
       rw [yC h1]
       unfold aaB at h2
       split at h2
       ·split at h2
        ·cases h2;rfl
        ·cases h2
       ·cases h2
      ·cases h
     ·cases h
    ·cases h
   ·split at h
    ·split at h
     ·rename_i bs1 y2 h2
      obtain ⟨bs2,L2,h1,_,_⟩:=jy h
      rw [yC h1]
      have:=sZ h2
      exact this
     ·cases h
    ·cases h
  ·cases h
theorem yD {C:Cx} {H:Nat→List Name} {k:List Eff→Sa→Prop}:∀ {l:List Nat} {y:Sy} {bs:Bs} {L:List DK} {y1:Sy} {s:Sa} {env:List Val} {L0:List Eff},QM C p all H l y=some (bs,L,y1)→Inst env y s→dw env →
  iT (dK C.P) bs env (fun e=>∀ s' L',Inst e y1 s' → qp e L L' → k (L0++L') s')→qx C.P p all H l L0 s k
 | [],y,bs,L,y1,s,env,L0,h,hI,hw,hb=>by
  cases h
  have:=hb s [] hI rfl
  simpa [qx] using this
 | i::l,y,bs,L,y1,s,env,L0,h,hI,hw,hb=>by
  simp only [QM] at h
  split at h
  ·rename_i o ho
   split at h
   ·rename_i ty hop
    split at h
    ·rename_i t hd hg
     split at h
     ·rename_i z hz
      split at h
      ·rename_i hc
       obtain ⟨c1,c2,c3,c4,c5⟩:=hc
       obtain ⟨bs2,L2,h1,rfl,rfl⟩:=jy h
       have hv:=xU (env:=env) hz
       obtain ⟨q1,q2⟩:=jm c4 hv
       simp only [qx,ho,hop,hd,hg]
       refine ⟨by rw [hI.n];exact c1,c2,mJ c3 hv,q1,q2,(hI.bx.look).2 (xW c5),?_⟩
       have hdst:aK all i=some t:=(bZ ho).trans hd
       have hI2:Inst env (({ y with bx:=(t::p,z)::y.bx }:Sy).put (some t) (.ptr (t::p) 0)) (nS all s ⟨i,.ptr (t::p) 0,[(t::p,aX C.P ty)],[]⟩):=by
        simp only [nS,hdst]
        have h3:Inst env ({ y with bx:=(t::p,z)::y.bx }:Sy) ({ s with bx:=iW [(t::p,aX C.P ty)] s.bx,vc:=iW [] s.vc }:Sa) :=
         ⟨hI.g,hI.rd,hI.n,hI.ts,hI.sv,⟨_,_,rfl,hv,hI.bx⟩,hI.lp,hI.ow,hI.vc⟩
        exact h3.put (some t) rfl
       refine yD h1 hI2 hw (bI ?_ (mM hb))
       rintro e ⟨⟨ext,rfl⟩,hq⟩ s' L' hs' hL'
       have:=hq s' (⟨i,.ptr (t::p) 0,[(t::p,aX C.P ty)],[]⟩::L') hs' ⟨_,_,rfl,⟨rfl,rfl,⟨_,_,rfl,xU hz,rfl⟩,rfl⟩,hL'⟩
       simpa using this
      ·cases h
     ·cases h
    ·cases h
   ·rename_i ty x v hop
    split at h
    ·rename_i nm off zv hd hg hx hzv
     split at h
     ·rename_i c c' hc hst
      split at h
      ·rename_i hcc
       obtain ⟨c1,c2,c3,c4⟩:=hcc
       obtain ⟨bs2,L2,h1,rfl,rfl⟩:=jy h
       have hxv:=hI.get hx
       simp only [ah] at hxv
       have hvv:=hI.get hzv
       have hvc:=uH (w:=tyD C.P ty) hvv
       obtain ⟨cv,hcv,hcI⟩:=(hI.bx.look).1 hc
       rw [hc] at hst
       obtain ⟨k1,k2,k3⟩:=EK hst hvc hcI
       obtain ⟨q1,q2⟩:=jm c4 hvc
       simp only [qx,ho,hop,hd,hg,hxv,hcv]
       refine ⟨c1,mJ c2 hvv,k3,c3,q1,by rw [← q1];exact k2,?_⟩
       have hdst:aK all i=none:=(bZ ho).trans hd
       have hI2:Inst env ({ y with bx:=(nm,c')::y.bx }:Sy) (nS all s ⟨i,.dead,[(nm,aZ off (s.get v) cv)],[]⟩):=by
        simp only [nS,hdst]
        exact ⟨hI.g,hI.rd,hI.n,hI.ts,hI.sv,⟨_,_,rfl,k1,hI.bx⟩,hI.lp,hI.ow,hI.vc⟩
       refine yD h1 hI2 hw (bI ?_ (mM hb))
       rintro e ⟨⟨ext,rfl⟩,hq⟩ s' L' hs' hL'
       have:=hq s' (⟨i,.dead,[(nm,aZ off (s.get v) cv)],[]⟩::L') hs' ⟨_,_,rfl,⟨rfl,rfl,⟨_,_,rfl,k1.app ext,rfl⟩,rfl⟩,hL'⟩
       simpa using this
      ·cases h
     ·cases h
    ·rename_i nm u ix inn zv hd hg hx hzv
     split at h
     ·rename_i bs1 y2 w2 e2 hvs
      split at h
      ·rename_i hcc
       obtain ⟨c1,c2⟩:=hcc
       obtain ⟨bs2,L2,h1,rfl,rfl⟩:=jy h
       unfold aaB at hvs
       split at hvs
       ·rename_i u' l w e hl has
        split at hvs
        ·rename_i hc
         obtain ⟨d0,d1,d2,d3,d4,d5⟩:=hc
         subst d0;subst d4;subst d5
         cases hvs
         have hxv:=hI.get hx
         simp only [ah] at hxv
         obtain ⟨kd,j,j1,j2,j3⟩:=hxv
         have hvv:=hI.get hzv
         have hvc:=uH (w:=tyD C.P ty) hvv
         obtain ⟨al,a1,a2⟩:=(hI.vc.look).1 hl
         obtain ⟨b,b1,b2⟩:=qF has hvc
         obtain ⟨q,q0⟩:=Option.isSome_iff_exists.1 d3
         have hcell:=(jm q0 hvc).2
         rw [kV] at hb
         obtain ⟨r,r1,r2,r3⟩:=bV hI.len (lq dA hw hb)
         obtain ⟨r2a,r2⟩:=r2
         obtain ⟨a',b',d',rr,cc,x1,x2,x3,x4,x5,x6⟩:=r1
         rw [a1] at x1;cases x1
         rw [j1] at x2;cases x2
         rw [b1] at x3;cases x3
         simp only [KY,dif_pos,Option.some.injEq] at x4
         subst x4
         simp only at x5
         split at x5
         ·rename_i hlt
          cases x5;cases x6
          have hu0:w2.size≠0:=by rw [d1];exact d2
          have hdst:aK all i=none:=(bZ ho).trans hd
          have e1:zD w2.size (j.toNat * w2.size+0) (bC w2 b) (al.map (bC w2))=(al.set j.toNat b).map (bC w2):=EU al j.toNat hlt.2 b hu0
          have h4:=hI.snoc (⟨.sl w2,al.set j.toNat b⟩:Val)
          have hI2:Inst (env++[⟨.sl w2,al.set j.toNat b⟩]) ({ y.more [.sl w2] with vc:=(nm,(w2,.var y.g.length))::y.vc }:Sy) (nS all s ⟨i,.dead,[],[(nm,(w2.size,zD w2.size (j.toNat * w2.size+0) (bC w2 b) (al.map (bC w2))))]⟩):=by
           simp only [nS,hdst,e1]
           exact ⟨h4.g,h4.rd,h4.n,h4.ts,h4.sv,h4.bx,h4.lp,h4.ow,⟨_,_,rfl,r3,h4.vc⟩⟩
          have hdm:j.toNat * w2.size+0=w2.size * j.toNat:=by rw [Nat.add_zero,Nat.mul_comm]
          simp only [qx,ho,hop,hd,hg,j3,a2,b2]
          refine ⟨c1,mJ c2 hvv,hcell,d2,by rw [aG,ak];exact d1,by rw [hdm,Nat.mul_mod_right];omega,by rw [hdm,Nat.mul_div_cancel_left _ (Nat.pos_of_ne_zero hu0),List.length_map];exact hlt.2,?_⟩
          refine yD h1 hI2 r2a (bI ?_ (mM r2))
          rintro e ⟨⟨ext,rfl⟩,hq⟩ s' L' hs' hL'
          have hv2:=E.dD ext r3
          have:=hq s' (⟨i,.dead,[],[(nm,(w2.size,zD w2.size (j.toNat * w2.size+0) (bC w2 b) (al.map (bC w2))))]⟩::L') hs' ⟨_,_,rfl,⟨rfl,rfl,rfl,⟨al.set j.toNat b,[],by rw [e1],hv2,rfl⟩⟩,hL'⟩
          simpa using this
         ·cases x5
        ·cases hvs
       ·cases hvs
      ·cases h
     ·cases h
    ·cases h
   ·rename_i hna hns
    split at h
    ·rename_i hcc
     obtain ⟨c1,c2,c3⟩:=hcc
     split at h
     ·rename_i bs1 y2 h2
      obtain ⟨bs2,L2,h1,rfl,rfl⟩:=jy h
      have goal:calm o.op=true∧o.dst.isSome=true∧uo s o.op=true∧bG C.P (BJ C.P) p all [o] (hide (H i) s) fun s' =>
        qx C.P p all H l (L0++[⟨i,lkD o.dst s',[],[]⟩]) { s' with bx:=s.bx,vc:=s.vc } k:=by
       refine ⟨c1,c2,Fq c3 hI,sS xQ hI.hide hw h2 ?_⟩
       rw [kV] at hb
       refine bI ?_ (mM (lq dA hw hb))
       rintro e ⟨⟨ext,rfl⟩,hwe,hq⟩ s' hs'
       simp only [bG]
       have hI2:Inst (env++ext) ({ y2 with bx:=y.bx,vc:=y.vc }:Sy) ({ s' with bx:=s.bx,vc:=s.vc }:Sa) :=
        ⟨hs'.g,hs'.rd,hs'.n,hs'.ts,hs'.sv,hI.bx.app ext,hs'.lp,hs'.ow,hI.vc.app ext⟩
       refine yD h1 hI2 hwe (bI ?_ (mM hq))
       rintro e2 ⟨⟨ext2,rfl⟩,hq2⟩ s2 L' hs2 hL'
       have:=hq2 s2 (⟨i,lkD o.dst s',[],[]⟩::L') hs2 ⟨_,_,rfl,⟨rfl,(Xp hs').app ext2,rfl,rfl⟩,hL'⟩
       simpa using this
      unfold qx
      rw [ho]
      simp only
      exact goal
     ·cases h
    ·cases h
  ·cases h
theorem C9 {α:Type} {nm:Name}:∀ {l:List (Name×α)},aj nm (ddN l)=aj nm l
 | []=>rfl
 | (n,x)::l=>by
  have hf:∀ {l:List (Name×α)},n≠nm→aj nm (l.filter fun y=>!decide (y.1=n))=aj nm l:=by
   intro l hne
   induction l with
   | nil=>rfl
   | cons z l ih =>
    obtain ⟨a,b⟩:=z
    rw [List.filter_cons]
    by_cases e:a=n
    ·subst e
     simp only [decide_true,Bool.not_true,Bool.false_eq_true,if_false,aj,if_neg hne]
     exact ih
    ·simp only [e,decide_false,Bool.not_false,if_true,aj,ih]
  simp only [ddN,aj]
  split
  ·rfl
  ·rename_i h
   rw [hf h,C9]
theorem aH.dd:∀ {xs:List (Name×SV)} {vs:List (Name×V)},aH env xs vs→aH env (ddN xs) (ddN vs)
 | [],vs,h=>by simp only [aH] at h;subst h;rfl
 | (k,x)::xs,vs,h=>by
  obtain ⟨v,l,rfl,h1,h2⟩:=h
  exact ⟨v,_,rfl,h1,(h2.dd).CZ (f:=fun n=>!decide (n=k))⟩
theorem fB.dd:∀ {xs:List (Name×Ty×E)} {vs:List (Name×Nat×List D)},fB env xs vs→fB env (ddN xs) (ddN vs)
 | [],vs,h=>by simp only [fB] at h;subst h;rfl
 | (k,t,x)::xs,vs,h=>by
  obtain ⟨a,l,rfl,h1,h2⟩:=h
  exact ⟨a,_,rfl,h1,(h2.dd).filter (q:=fun n=>!decide (n=k))⟩
theorem fB.keys:∀ {xs:List (Name×Ty×E)} {vs:List (Name×Nat×List D)},fB env xs vs→vs.map (·.1)=xs.map (·.1)
 | [],vs,h=>by simp only [fB] at h;subst h;rfl
 | (k,t,x)::xs,vs,h=>by
  obtain ⟨a,l,rfl,h1,h2⟩:=h
  simp only [List.map_cons,h2.keys]
theorem aH.Y6 {κ:Type}:∀ {xs:List (κ×SV)} {vs:List (κ×V)},aH env xs vs→vs.map (·.1)=xs.map (·.1)
 | [],vs,h=>by simp only [aH] at h;subst h;rfl
 | (k,x)::xs,vs,h=>by
  obtain ⟨v,l,rfl,h1,h2⟩:=h
  simp only [List.map_cons,h2.Y6]
theorem qR.names {z:DK} {x:Eff} (h:qR env z x):EC x=Fh z:=by
 unfold EC Fh
 rw [h.2.2.1.Y6,h.2.2.2.keys]
theorem aH.keys {κ:Type}:∀ {xs:List (κ×SV)} {vs:List (κ×V)},aH env xs vs→∀ q∈vs,∃ z∈xs,z.1=q.1∧ah env z.2 q.2
 | [],vs,h,q,hq=>by simp only [aH] at h;subst h;cases hq
 | (k,x)::xs,vs,h,q,hq=>by
  obtain ⟨v,l,rfl,h1,h2⟩:=h
  rcases List.mem_cons.1 hq with rfl | hq
  ·exact ⟨(k,x),List.mem_cons_self,rfl,h1⟩
  ·obtain ⟨z,h3,h4⟩:=h2.keys q hq
   exact ⟨z,List.mem_cons_of_mem _ h3,h4⟩
theorem TV {pre:Nat→List Nat} {H:Nat→List Name} {L:List DK} {L' : List Eff} (h:Xf all p pre H y L=true) (hI:Inst env y s) {e:List Val} (hL:qp e L L'):aa2 all p pre H s L':=by
 simp only [Xf,Bool.and_eq_true] at h
 obtain ⟨h1,h2⟩:=h
 constructor
 ·intro a ha x hx hu q hq
  obtain ⟨za,m1,i1⟩:=hL.mem a ha
  obtain ⟨zx,m2,i2⟩:=hL.mem x hx
  have h3:=List.all_eq_true.1 (List.all_eq_true.1 h1 za m1) zx m2
  rw [← i1.1,← i2.1,zY.2 hu] at h3
  simp only [Bool.not_true,Bool.false_or,List.all_eq_true] at h3
  rw [i2.names] at hq
  have h4:=h3 q hq
  simp only [Bool.and_eq_true,List.all_eq_true,Bool.not_eq_true',decide_eq_false_iff_not] at h4
  refine ⟨h4.1,fun z hz=>?_⟩
  rw [i1.names] at hz
  exact h4.2 z hz
 ·intro a ha nm hnm
  obtain ⟨za,m1,i1⟩:=hL.mem a ha
  have h3:=List.all_eq_true.1 h2 za m1
  rw [← i1.1] at h3
  have h4:=List.all_eq_true.1 h3 nm hnm
  simp only [Bool.and_eq_true,Bool.not_eq_true'] at h4
  refine ⟨hI.refs h4.1,fun x hx hne hnp=>?_⟩
  obtain ⟨zx,m2,i2⟩:=hL.mem x hx
  have h5:=List.all_eq_true.1 h4.2 zx m2
  rw [← i2.1] at h5
  simp only [Bool.or_eq_true,Bool.and_eq_true,Bool.not_eq_true',List.contains_eq_mem,decide_eq_true_eq] at h5
  rcases h5 with h5 | h5 | h5
  ·exact absurd (Nat.eq_of_beq_eq_true h5) hne
  ·exact absurd h5 hnp
  ·refine ⟨i2.2.1.refs nm h5.1,fun q hq=>?_⟩
   obtain ⟨w,m3,_,e3⟩:=i2.2.2.1.keys q hq
   have:=List.all_eq_true.1 h5.2 w m3
   simp only [Bool.not_eq_true'] at this
   exact e3.refs nm this
theorem Snd.mix {C:Cx} {f:FuncId} {lc:LC} {lv:Lv} {id:Nat} {ops:Array Oper} {r:Res} {ord:List Nat} {c:Nat} (hm:C.P.follows .mixedOrders=true) (h:aaC C p ops ord y c=some r) :
  Snd C.P p (.code f (.region id ops true) lc lv) y (keepR lv r):=by
 unfold aaC at h
 simp only at h
 split at h
 ·rename_i hp
  split at h
  ·rename_i L0 _ h0
   split at h
   ·rename_i bs L y1 h1
    split at h
    ·rename_i hcb
     cases h
     have hlp:=yC h1
     refine ⟨qo fun lf hl=>?_,fun env s hI hw R hs=>?_⟩
     ·simp only [List.mem_singleton] at hl
      subst hl
      show lpS y1.lp=lpS y.lp
      rw [hlp]
     ·refine gJ (YD ord (fun i=>Hy i (ZW ops ord [])) (hOf (fun i=>Hy i (ZW ops ord [])) L0) hm hp ?_)
      have hq:=qm hs
      refine yD h1 hI hw (bI ?_ (nI (r:=⟨.hole 0,[⟨.norm,.dead,{ y1 with bx:=ddN y1.bx,vc:=ddN y1.vc }⟩],c,[]⟩) hw hq))
      rintro e ⟨hwe,hh⟩ s' L' hs' hL'
      rw [List.nil_append]
      refine ⟨TV hcb hI hL',?_⟩
      obtain ⟨lf,e1,e2⟩:=hh
      simp only [List.getElem?_cons_zero,Option.some.injEq] at e1
      subst e1
      have hI2:Inst e ({ y1 with bx:=ddN y1.bx,vc:=ddN y1.vc }:Sy) ({ s' with bx:=ddN s'.bx,vc:=ddN s'.vc }:Sa):=⟨hs'.g,hs'.rd,hs'.n,hs'.ts,hs'.sv,hs'.bx.dd,hs'.lp,hs'.ow,hs'.vc.dd⟩
      obtain ⟨s2,w2,r2⟩:=e2 _ hI2
      have hE:Eqv s' ({ s' with bx:=ddN s'.bx,vc:=ddN s'.vc }:Sa):=⟨rfl,rfl,rfl,fun nm=>C9.symm,rfl,rfl,fun _=>rfl,fun nm=>C9.symm⟩
      exact ⟨s2,jK hE.wk w2,r2⟩
    ·cases h
   ·cases h
  ·cases h
 ·cases h
end
end Go.Tx
namespace Go.Tx
open Go Go.Ab
section
variable {P:Program} {CS:Calls'} {env:List Val} {y:Sy} {s:Sa} {p:Name} {all:Array Oper}
mutual
theorem ah.det:∀ {x:SV} {v u:V},MF x=true→ah env x v→ah env x u→v=u
 | .e t x,v,u,h,hv,hu=>by
  simp only [ah] at hv hu
  obtain ⟨a,h1,rfl⟩:=hv;obtain ⟨b,h2,rfl⟩:=hu
  rw [h1] at h2;cases h2;rfl
 | .nil,v,u,h,hv,hu=>by simp only [ah] at hv hu;rw [hv,hu]
 | .own id sz t x,v,u,h,hv,hu=>by
  simp only [ah] at hv hu
  obtain ⟨a,h1,_,rfl⟩:=hv;obtain ⟨b,h2,_,rfl⟩:=hu
  rw [h1] at h2;cases h2;rfl
 | .ptr n off,v,u,h,hv,hu=>by simp only [ah] at hv hu;rw [hv,hu]
 | .aptr n off m t i inn,v,u,h,hv,hu=>by
  simp only [ah] at hv hu
  obtain ⟨k,j,h1,_,_,rfl⟩:=hv;obtain ⟨k',j',h2,_,_,rfl⟩:=hu
  rw [h1] at h2;cases h2;rfl
 | .ref t x off,v,u,h,hv,hu=>by simp [MF] at h
 | .fn f cap,v,u,h,hv,hu=>by
  simp only [ah] at hv hu
  obtain ⟨c,rfl,h1⟩:=hv;obtain ⟨d,rfl,h2⟩:=hu
  rw [aA.det (by simpa [MF] using h) h1 h2]
 | .yld l,v,u,h,hv,hu=>by simp only [ah] at hv hu;rw [hv,hu]
 | .mref n,v,u,h,hv,hu=>by simp only [ah] at hv hu;rw [hv,hu]
 | .mpc k t x,v,u,h,hv,hu=>by simp [MF] at h
 | .agg cs,v,u,h,hv,hu=>by
  simp only [ah] at hv hu
  obtain ⟨c,rfl,h1⟩:=hv;obtain ⟨d,rfl,h2⟩:=hu
  rw [aA.det (by simpa [MF] using h) h1 h2]
 | .mix t x os zs,v,u,h,hv,hu=>by
  simp only [ah] at hv hu
  obtain ⟨a,c,h1,rfl,h3,h4,h5⟩:=hv;obtain ⟨a',c',g1,rfl,g3,g4,g5⟩:=hu
  rw [h1] at g1;cases g1
  have e:c=c':=by
   refine List.ext_getElem? fun i=>?_
   by_cases hi:i<t.size
   ·by_cases ho:i∈os
    ·exact aS.det (by simpa [MF] using h) h4 g4 i ho
    ·rw [h5 i hi ho,g5 i hi ho]
   ·rw [List.getElem?_eq_none (by omega),List.getElem?_eq_none (by omega)]
  rw [e]
 | .tup cs,v,u,h,hv,hu=>by
  simp only [ah] at hv hu
  obtain ⟨c,rfl,h1⟩:=hv;obtain ⟨d,rfl,h2⟩:=hu
  rw [aA.det (by simpa [MF] using h) h1 h2]
 | .kd cs,v,u,h,hv,hu=>by simp only [ah] at hv hu;rw [hv,hu]
 | .gd gs x,v,u,h,hv,hu=>by
  simp only [ah] at hv hu
  obtain ⟨b,h1,h2,h3,h4⟩:=hv;obtain ⟨b',g1,g2,g3,g4⟩:=hu
  rw [h1] at g1;cases g1
  cases b with
  | true=>exact ah.det (by simpa [MF] using h) (h3 rfl) (g3 rfl)
  | false=>rw [h4 rfl,g4 rfl]
 | .vsl n,v,u,h,hv,hu=>by simp only [ah] at hv hu;rw [hv,hu]
 | .vpt n t i inn,v,u,h,hv,hu=>by
  simp only [ah] at hv hu
  obtain ⟨k,j,h1,_,rfl⟩:=hv;obtain ⟨k',j',h2,_,rfl⟩:=hu
  rw [h1] at h2;cases h2;rfl
 | .dead,v,u,h,hv,hu=>by simp only [ah] at hv hu;rw [hv,hu]
theorem aA.det:∀ {xs:List SV} {vs us:List V},Tz xs=true→aA env xs vs→aA env xs us→vs=us
 | [],vs,us,h,hv,hu=>by simp only [aA] at hv hu;rw [hv,hu]
 | x::xs,vs,us,h,hv,hu=>by
  simp only [aA] at hv hu
  simp only [Tz,Bool.and_eq_true] at h
  obtain ⟨v,vs',rfl,h1,h2⟩:=hv;obtain ⟨u,us',rfl,g1,g2⟩:=hu
  rw [ah.det h.1 h1 g1,aA.det h.2 h2 g2]
theorem aS.det:∀ {zs:List SV} {os:List Nat} {c d:List V},Tz zs=true→aS env os zs c→aS env os zs d→∀ i∈os,c[i]? = d[i]?
 | [],os,c,d,h,hc,hd,i,hi=>by simp only [aS] at hc;subst hc;cases hi
 | z::zs,os,c,d,h,hc,hd,i,hi=>by
  simp only [aS] at hc hd
  simp only [Tz,Bool.and_eq_true] at h
  obtain ⟨j,os',rfl,⟨v,h1,h2⟩,h3⟩:=hc
  obtain ⟨j',os'',e,⟨u,g1,g2⟩,g3⟩:=hd
  cases e
  rcases List.mem_cons.1 hi with e | e
  ·subst e;rw [h1,g1,ah.det h.1 h2 g2]
  ·exact aS.det h.2 h3 g3 i e
end
theorem aH.PV {xs:List (Name×SV)} {vs:List (Name×V)} (h:aH env xs vs) {n:Name} {v:V} (hv:aj n vs=some v):∃ x,aj n xs=some x∧ah env x v:=by
 cases hx:aj n xs with
 | none=>rw [(h.look).2 hx] at hv;cases hv
 | some x =>
  obtain ⟨u,h1,h2⟩:=(h.look).1 hx
  rw [h1] at hv;cases hv
  exact ⟨x,rfl,h2⟩
theorem fB.PV {xs:List (Name×Ty×E)} {vs:List (Name×Nat×List D)} (h:fB env xs vs) {n:Name} {v:Nat×List D} (hv:aj n vs=some v):∃ t x,aj n xs=some (t,x)∧∃ a:List t.den,v=(t.size,a.map (bC t))∧x.val env=some ⟨.sl t,a⟩:=by
 cases hx:aj n xs with
 | none=>rw [(h.look).2 hx] at hv;cases hv
 | some x =>
  obtain ⟨t,x⟩:=x
  obtain ⟨a,h2,h1⟩:=(h.look).1 hx
  rw [h1] at hv;cases hv
  exact ⟨t,x,rfl,a,rfl,h2⟩
theorem jo {α:Type} {n:Name} {x:α}:∀ {l:List (Name×α)},aj n l=some x→n∈l.map (·.1)
 | [],h=>by cases h
 | (m,z)::l,h=>by
  simp only [aj] at h
  split at h
  ·rename_i e;rw [List.map_cons];exact List.mem_cons.2 (.inl e.symm)
  ·rw [List.map_cons];exact List.mem_cons_of_mem _ (jo h)
theorem JI {n:Name} {z:SV} {v:V} (h:TG n z=true) (hv:ah env z v):∃ o,v = .ptr n o:=by
 cases z <;> simp only [TG,Bool.false_eq_true,decide_eq_true_eq] at h
 simp only [ah] at hv
 subst h
 exact ⟨_,hv⟩
theorem TW {l:List Val} {ds:List Tmp} {y1 ys:Sy} {s1 sj:Sa} {z:SV} {v:V} (h:Xh ds y1 ys z=true) (hI:Inst env y1 s1) (hJ:Inst (env++l) ys sj) (hv:ah env z v):KL ds s1 sj v:=by
 cases z <;> simp only [Xh,Bool.false_eq_true] at h <;> simp only [ah] at hv
 ·obtain ⟨a,_,rfl⟩:=hv;trivial
 ·subst hv;trivial
 ·subst hv
  rename_i n off
  obtain ⟨x,hx,h⟩:=List.any_eq_true.1 h
  simp only [Bool.and_eq_true,Bool.not_eq_true',List.contains_eq_mem,decide_eq_false_iff_not] at h
  obtain ⟨o,e1⟩:=JI h.2.1 (hI.ts.lk (t:=x.1))
  obtain ⟨o',e2⟩:=JI h.2.2 (hJ.ts.lk (t:=x.1))
  exact ⟨x.1,o,o',h.1,e1,e2⟩
 ·obtain ⟨a,cs,_,rfl,_⟩:=hv;trivial
theorem JJ {hb ys:Sy} {hbs sj:Sa} {n:Name} (h:TF hb ys n=true) (h1:aH env hb.bx hbs.bx) (h2:fB env hb.vc hbs.vc) (hJ:Inst env ys sj) :
  (∀ c,aj n hbs.bx=some c→aj n sj.bx=some c)∧∀ c,aj n hbs.vc=some c→aj n sj.vc=some c:=by
 simp only [TF,Bool.and_eq_true] at h
 constructor
 ·intro c hc
  obtain ⟨z,h1,h2⟩:=h1.PV hc
  have h3:=h.1
  rw [h1] at h3
  simp only at h3
  split at h3
  ·rename_i u hu
   simp only [Bool.and_eq_true] at h3
   have e:=SV.same_eq _ h3.2
   subst e
   obtain ⟨c',g1,g2⟩:=(hJ.bx.look).1 hu
   rw [g1,ah.det h3.1 g2 h2]
  ·cases h3
 ·intro c hc
  obtain ⟨t,x,h1,a,h2,h4⟩:=h2.PV hc
  have h3:=h.2
  rw [h1] at h3
  simp only at h3
  split at h3
  ·rename_i u e hu
   simp only [Bool.and_eq_true,decide_eq_true_eq] at h3
   obtain ⟨h5,h6⟩:=h3
   subst h5
   have e:=E.same_eq h6
   subst e
   obtain ⟨a',g2,g1⟩:=(hJ.vc.look).1 hu
   rw [h4] at g2
   cases g2
   rw [g1,h2]
  ·cases h3
theorem Xq {l:List Val} {hb:Sy} {l2:List Nat} {d:Option Tmp} {y1 y2 ys:Sy} {s1 hbs sj:Sa} {val:Nat→V} (h:ZX all hb l2 d y1 y2 ys=true) (hI:Inst env y1 s1) (hb1:aH env hb.bx hbs.bx) (hb2:fB env hb.vc hbs.vc) (h2:∀ q∈l2,ah env (Vg (aK all q) y2) (val q)) (hJ:Inst (env++l) ys sj) :
  aa0 all l2 d hbs s1 sj val:=by
 simp only [ZX,Bool.and_eq_true,List.all_eq_true] at h
 obtain ⟨hb,hn,hq⟩:=h
 refine ⟨⟨fun nm c hc=>?_,fun nm c hc=>?_⟩,by rw [hJ.n,hI.n];exact Nat.eq_of_beq_eq_true hn,fun q hq' u hu hno=>?_,fun q hq'=>?_⟩
 ·obtain ⟨z,h1,_⟩:=hb1.PV hc
  exact (JJ (hb nm (List.mem_append_left _ (jo h1))) (hb1.app l) (hb2.app l) hJ).1 c hc
 ·obtain ⟨t,x,h1,_⟩:=hb2.PV hc
  exact (JJ (hb nm (List.mem_append_right _ (jo h1))) (hb1.app l) (hb2.app l) hJ).2 c hc
 ·have h3:=(hq q hq').1 u hu
  simp only [Bool.or_eq_true,Bool.and_eq_true,List.any_eq_true,decide_eq_true_eq] at h3
  rcases h3 with ⟨r,hr,e⟩ | ⟨h4,h5⟩
  ·exact absurd e (hno r hr)
  ·have e:=SV.same_eq _ h5
   have g1:=hI.ts.lk (t:=u)
   have g2:=hJ.ts.lk (t:=u)
   rw [← e] at g2
   exact ah.det h4 g2 (g1.app l)
 ·exact TW (hq q hq').2 hI hJ (h2 q hq')
theorem Aw:∀ (l:List (Nat×SV)) {y:Sy},(yw all y l).lp=y.lp
 | [],y=>rfl
 | x::l,y=>by
  show (yw all (y.put (aK all x.1) x.2) l).lp=_
  rw [Aw l,dF]
theorem Az {z:Nat→SV} {v:Nat→V}:∀ (l:List Nat) {y:Sy} {s:Sa},Inst env y s→(∀ q∈l,ah env (z q) (v q))→Inst env (yw all y (l.map fun q=>(q,z q))) (ay all s (l.map fun q=>(q,v q)))
 | [],y,s,h,_=>h
 | q::l,y,s,h,hv=>Az l (h.put (aK all q) (hv q List.mem_cons_self)) fun r hr=>hv r (List.mem_cons_of_mem _ hr)
theorem PW {z:SV} {v:V} (h:Am z=true) (hv:ah env z v):v = .dead:=by
 cases z <;> simp only [Am,Bool.false_eq_true] at h
 exact hv
theorem PX {d:Option Tmp} (h:aH env y.ts s.ts):ah env (Vg d y) (lkD d s):=by
 cases d with
 | none=>rfl
 | some t=>exact h.lk
theorem PY {l2:List Nat} (hd:YX all l2 y=true) (hI:Inst env y s):∀ q∈l2,∀ d,aK all q=some d→lkT d s.ts = .dead:=by
 intro q hq d hdq
 have:=List.all_eq_true.1 hd q hq
 rw [hdq] at this
 exact PW this hI.ts.lk
theorem Snd.abn {C:Cx} {f:FuncId} {l2:List Nat} {hb y2:Sy} {rest:List Seg} {r:Res} (H:Snd C.P p (.plan f all rest) (yw all y (l2.map fun q=>(q,Vg (aK all q) y2))) r):Snd C.P p (.bes f all l2 hb y2 [] rest) y r :=
 ⟨fun lf hl=>by rw [H.lp lf hl,Aw],fun env s hI hw hbs s2 k hb1 hb2 h2 hs=>H.go env _ (Az l2 hI fun q _=>PX h2) hw k hs⟩
theorem Snd.aaH {C:Cx} {f:FuncId} {l2 js:List Nat} {j:Nat} {oj:Oper} {hb y2:Sy} {rest:List Seg} {r1 r:Res} {F:Leaf→Nat→Option Res} (hj:all[j]? = some oj) (hd:YX all l2 y=true) (H1:Snd C.P p (.ops f all [oj]) y r1) (h:kG r1 F=some r)
  (hF:∀ lf c r',F lf c=some r' → ZX all hb l2 oj.dst y y2 lf.s=true∧Snd C.P p (.bes f all l2 hb y2 js rest) lf.s r'):Snd C.P p (.bes f all l2 hb y2 (j::js) rest) y r:=by
 constructor
 ·intro lf' hl
  obtain ⟨lf,g1,c1,r',g2,g3⟩:=jM h lf' hl
  rw [(hF lf c1 r' g2).2.lp _ g3,H1.lp _ g1]
 ·intro env s hI hw hbs s2 k hb1 hb2 h2 hs
  show Eo C.P p all l2 hbs _ (j::js) s _
  simp only [Eo,hj]
  refine ⟨PY hd hI,H1.go env s hI hw _ ?_⟩
  have hext:=T.uF dA hw (kZ h hw hs)
  refine T.bf (fun _ _ h=>h.2) ?_ hext
  rintro i e2 ⟨⟨ext,rfl⟩,hwe2,lf,q1,⟨_,c1,r',g1,g2⟩⟩
  refine ⟨lf,q1,fun sj hsj=>?_⟩
  obtain ⟨k1,k2⟩:=hF lf c1 r' g1
  exact ⟨Xq k1 hI hb1 hb2 (fun q _=>PX h2) hsj,k2.go _ sj hsj hwe2 hbs s2 k (hb1.app ext) (hb2.app ext) (h2.app ext) g2⟩
theorem Snd.Xr {C:Cx} {f:FuncId} {l1 l2 js:List Nat} {rest:List Seg} {bs:Bs} {y1 y2:Sy} {H:List Name} {r:Res} (hd:YX all l2 y=true) (h1:Fg C p all l1 y=some (bs,y1))
  (h2:Fg C p all l2 (LD H y1)=some ([],y2)) (H1:Snd C.P p (.bes f all l2 (LD H y1) y2 js rest) y1 r):Snd C.P p (.plan f all (.beside l1 l2 js::rest)) y { r with t:=binds bs r.t }:=by
 constructor
 ·intro lf' hl
  rw [H1.lp lf' hl,uO h1]
 ·intro env s hI hw k hs
  show gB C.P p all (.beside l1 l2 js::rest) s k
  simp only [gB]
  refine ⟨PY hd hI,uP h1 hI hw ?_⟩
  refine bI ?_ (nI hw hs)
  rintro e ⟨hwe,hq⟩ s1 hs1
  refine ⟨H,uP h2 hs1.hide hwe ?_⟩
  intro s2 hs2
  exact H1.go e s1 hs1 hwe _ s2 k hs1.hide.bx hs1.hide.vc hs2.ts hq
theorem Snd.aaI {C:Cx} {f:FuncId} {l:List Nat} {os:List Oper} {sg:Seg} {rest:List Seg} {bs:Bs} {y1:Sy} {r0 r:Res} {F:Leaf→Nat→Option Res} (h1:Fg C p all l y=some (bs,y1)) (H1:Snd C.P p (.ops f all os) y1 r0) (h:kG r0 F=some r)
  (hF:∀ lf c r',F lf c=some r' → Snd C.P p (.plan f all rest) lf.s r'):Snd C.P p (.plan f all (sg::rest)) y { r with t:=.fail }:=by
 constructor
 ·intro lf' hl
  obtain ⟨lf,g1,c1,r',g2,g3⟩:=jM h lf' hl
  rw [(hF lf c1 r' g2).lp _ g3,H1.lp _ g1,uO h1]
 ·intro env s hI hw k hs
  exact (show False from hs).elim
end
end Go.Tx
namespace Go.Tx
open Go Go.Ab
section
variable {P:Program} {CS:Calls'} {env:List Val} {y:Sy} {s:Sa} {p:Name}
theorem PZ {r r' : Res} (h:QL r=some r') {base:List (Name×Lp)} (hlp:∀ lf∈r.L,lpS lf.s.lp=lpS base):∀ lf∈r'.L,lpS lf.s.lp=lpS base:=by
 unfold QL at h
 split at h
 ·cases h
 ·cases h;exact CX (fun _=>rfl) hlp
theorem wC {r r' : Res} (h:QL r=some r') {R:Sa→Prop} (hs:r'.t.sat CS noJ (LQ r'.L (iV fun _=>R)) env) :
  r.t.sat CS noJ (LQ r.L (iV fun e s'=>(match e with | .exit _=>False | _=>True)∧R s')) env:=by
 unfold QL at h
 split at h
 ·cases h
 ·rename_i hn
  cases h
  refine jg ?_ (wB hs)
  intro lf hlf e hq s' hs'
  refine ⟨?_,hq s' hs'⟩
  cases he:lf.e with
  | exit i=>exact hn (List.any_eq_true.2 ⟨lf,hlf,by rw [he];rfl⟩)
  | norm=>trivial
  | ret=>trivial
theorem Snd.quick {C:Cx} (hsp:Fa C.P C.sp) {g:FuncId} {args:List SV} {y1:Sy} {z1:SV} {bs:Bs} {c:Nat} (h:quick C p g args y=some (bs,y1,z1)):Snd C.P p (.call g args) y ⟨binds bs (.hole 0),[⟨.norm,z1,y1⟩],c,[]⟩:=by
 have hlp:y1.lp=y.lp:=by
  unfold Tx.quick at h
  split at h
  ·rename_i sp hs
   cases sp <;> simp only [vw] at h <;> repeat' (split at h)
   all_goals first | (cases h;done) | (cases h;rfl)
  ·split at h
   ·cases h;rfl
   ·cases h
 refine ⟨fun lf hl=>by rw [List.mem_singleton.1 hl];show lpS y1.lp=_;rw [hlp],fun env s hI hw vs k hargs hs=>?_⟩
 show nP C.P p g vs s k
 have hb:=nI (r:=⟨.hole 0,[⟨.norm,z1,y1⟩],c,[]⟩) hw hs
 unfold Tx.quick at h
 split at h
 ·rename_i sp hsg
  refine O6 (hsp g sp hsg) h hI hargs (bI ?_ hb)
  rintro e ⟨hwe,hq⟩ s' v hs' hv
  obtain ⟨lf,e1,hq⟩:=hq
  simp only [List.getElem?_cons_zero,Option.some.injEq] at e1
  subst e1
  exact hq s' v hs' hv
 ·split at h
  ·rename_i bs' z hc
   cases h
   unfold OD at hc
   split at hc
   ·rename_i ts r hr
    split at hc
    ·rename_i es hes
     split at hc
     ·rename_i hro
      cases hc
      obtain ⟨us,e1,e2,e3⟩:=wo hes hargs
      obtain ⟨a,r1,r2,r3⟩:=bV hI.len hb
      obtain ⟨vs',x1,x2⟩:=r1
      rw [e1] at x1;cases x1
      have x2:=x2.1
      rw [if_pos hro.2] at x2
      obtain ⟨hwe,lf,e4,hq⟩:=r2
      simp only [List.getElem?_cons_zero,Option.some.injEq] at e4
      subst e4
      exact pV x2 e3 (hq s _ (hI.snoc _) (Hf hro.1 r3))
     ·cases hc
    ·cases hc
   ·cases hc
  ·cases h
theorem Snd.aaJ {C:Cx} {g:FuncId} {args:List SV} {i:Name} {u:Ty} {q:E} {r:Res} (h:O8 C g args y=some (i,u,q)) (H:Snd P p (.call g (SV.jq i u q args)) (y.soft i) r):Snd P p (.call g args) y r:=by
 refine ⟨fun lf hl=>by rw [H.lp lf hl,Sy.Ho],fun env s hI hw vs k hargs hs=>?_⟩
 show nP P p g vs s k
 unfold O8 at h
 split at h
 ·split at h
  ·rename_i u' q' hl
   cases h
   obtain ⟨a,e1,e2⟩:=(hI.vc.look).1 hl
   refine nP.soft e2 ?_
   exact H.go env _ (hI.soft _) hw _ _ (aA.soft e1 _ hargs) hs
  ·cases h
 ·cases h
theorem Snd.aaK {C:Cx} (hsp:Fa C.P C.sp) {f:FuncId} {all:Array Oper} {g:List Nat} {j:Nat} {rest:List Seg} {bs:Bs} {y1:Sy} {r:Res} (h:Xe C p all g j y=some (bs,y1)) (H:Snd C.P p (.plan f all rest) y1 r) :
  Snd C.P p (.plan f all (.make g j::rest)) y { r with t:=binds bs r.t }:=by
 unfold Xe at h
 split at h
 ·rename_i t fv as hco
  split at h
  ·rename_i hfr
   split at h
   ·rename_i bs0 y0 hseg
    split at h
    ·rename_i hfr1
     split at h
     ·rename_i gg x z hfv has
      split at h
      ·rename_i hcal
       split at h
       ·rename_i ts te hsg
        split at h
        ·rename_i w ye hasS
         split at h
         ·rename_i hc
          cases h
          refine ⟨fun lf hl=>?_,fun env s hI hw k hs=>?_⟩
          ·rw [H.lp lf hl,dF,Ti,uO hseg]
          ·show gB C.P p all (.make g j::rest) s k
           simp only [gB,hco]
           refine ⟨hI.free hfr,uP hseg hI hw ?_⟩
           have h0:=nI hw hs
           rw [kV] at h0
           refine bI ?_ (lq dA hw h0)
           rintro e ⟨hwe,hq⟩ s1 hs1
           have hst:=hs1.free hfr1.1
           have hv:=hs1.get hfv
           simp only [ah] at hv
           obtain ⟨a,e1,e2⟩:=hv
           have hargs:=mF (fun o x hx=>hs1.get hx) has
           simp only [aA] at hargs
           obtain ⟨v,vs',e3,h1,rfl⟩:=hargs
           obtain ⟨ys,m1,m2,m3⟩:=Tj (y:=y0) (hsp gg _ hsg) hasS hc.1 hc.2 hs1.len h1 hq
           refine ⟨hst,by rw [hs1.n];exact hfr1.2,gg,_,_,_,e2,hcal,by rw [e3];exact m1,m2,?_⟩
           have h5:=hs1.bH (t::p) w ys (tsz C.P te) hc.1
           rw [zW hst] at h5
           exact H.go _ _ (h5.put (some t) rfl) m3.1 k m3.2
         ·cases h
        ·cases h
       ·cases h
      ·cases h
     ·cases h
    ·cases h
   ·cases h
  ·cases h
 ·cases h
theorem Snd.call {g:FuncId} {fn:Func} {cb:Code} {args:List SV} {lc:LC} {lv:Lv} {c0:Nat} {r0 r1 r2 r:Res} {F:Leaf→Nat→Option Res} (hf:P.funcs[g]? = some fn) (hb:fn.body=some cb) (hle:args.length≤fn.ntmps)
  (H:Snd P [c0] (.code g cb lc lv) (y.push fn.ntmps args) r0) (h1:QL r0=some r1) (h2:fG y.g false r1=some r2) (h:kG r2 F=some r)
  (hF:∀ lf c r3,F lf c=some r3→(lf.s.sv.length=y.sv.length+1∧LG lf.s.lp=LG y.lp)∧∃ vs,resV P lf.s fn.results.toList=some vs∧r3=one .norm (Pv vs) lf.s.pop c):Snd P p (.call g args) y r:=by
 have hl1:=PZ h1 H.lp
 have hl2:=iq h2 hl1
 constructor
 ·intro lf' hl
  obtain ⟨lf,k1,c1,r3,k2,k3⟩:=jM h lf' hl
  obtain ⟨_,vs,k4,rfl⟩:=hF lf c1 r3 k2
  rw [lI k3,PO]
  exact hl2 lf k1
 ·intro env s hI hw vs k hargs hs
  show nP P p g vs s k
  refine vC [c0] hf hb (by rw [hargs.len];exact hle) (gJ ?_)
  refine H.go env _ (hI.push fn.ntmps hargs) hw _ ?_
  have k1:=(ig dA h2 hI.g hw hl1).2 (R:=fun _ s'=>s'.sv.length=s.sv.length+1∧lpD s'.lp=lpD s.lp∧Gn P s' fn.results.toList fun us=>k (jd us) s'.pop) (jg (fun lf hlf e=>?_) (kZ h hw hs))
  ·refine jg ?_ (wC h1 k1)
   rintro lf hlf e hq s' hs'
   obtain ⟨e1,s2,w2,e2⟩:=hq s' hs'
   exact ⟨s2,w2,e1,e2⟩
  ·rintro ⟨hwe,c1,r3,e1,e2⟩ s' hs'
   obtain ⟨⟨e3,e4⟩,us,e5,rfl⟩:=hF lf c1 r3 e1
   have e6:=jY e2
   refine ⟨by rw [hs'.sv.len,hI.sv.len];exact e3,by rw [hs'.lp,hI.lp];exact e4,yx e5 hs' fun ws hws=>e6 _ _ hs'.pop (PG hws)⟩
theorem Snd.yld {l:Name} {q:Lp} {f:SFr} {fo:FuncId} {args:List SV} {lc lc' : LC} {lv lv' : Lv} {c0:Nat} {r1 r:Res} {F:Leaf→Nat→Option Res} (hl:aj l y.lp=some q) (hf:(yh y).reverse[q.depth]? = some f) (hps:q.ps.toList.all (fun t=>decide (t<f.n))=true) (hlen:args.length=q.ps.size)
  (H:Snd P [c0] (.code fo q.assign lc lv) (y.round l f q.ps.toList args) r1) (h:kG r1 F=some r)
  (hF:∀ lf c r3,F lf c=some r3→lf.e = .norm∧∃ q1,aj l lf.s.lp=some q1∧q1.pending=none∧∃ pq r2 r2' G,Snd P pq (.code fo q.body lc' lv') (lf.s.aU l { q1 with pending:=some none }) r2∧fG lf.s.g false r2=some r2' ∧ kG r2' G=some r3 ∧
   ∀ lf c r3,G lf c=some r3→(lf.s.sv.length=y.sv.length+1∧LG lf.s.lp=LG y.lp)∧∃ q2,aj l lf.s.lp=some q2∧r3=one .norm (.e .bool (.bool (Px lf.e))) (lf.s.aU l { q2 with pending:=jmp lf.e }).pop c):Snd P p (.yld l args) y r:=by
 have hlp2:∀ lf∈r1.L,∀ c r3,F lf c=some r3→∀ q1,aj l lf.s.lp=some q1→lpS (lf.s.aU l { q1 with pending:=some none }).lp=lpS y.lp:=fun lf hm c r3 _ q1 hq1=>by
  rw [show (lf.s.aU l { q1 with pending:=some none }).lp=Ab.dh l { q1 with pending:=some none } lf.s.lp from rfl,CW (q:=q1) (q':={ q1 with pending:=some none }) ⟨rfl,rfl,rfl,rfl⟩ hq1]
  exact H.lp lf hm
 constructor
 ·intro lf' hl'
  obtain ⟨lf,k1,c1,r3,k2,k3⟩:=jM h lf' hl'
  obtain ⟨e1,q1,e2,e3,pq,r2,r2',G,H2,e4,e5,e6⟩:=hF lf c1 r3 k2
  obtain ⟨lf2,m1,c2,r4,m2,m3⟩:=jM e5 lf' k3
  obtain ⟨_,q2,m4,rfl⟩:=e6 lf2 c2 r4 m2
  rw [lI m3,PO,show (lf2.s.aU l { q2 with pending:=jmp lf2.e }).lp=Ab.dh l { q2 with pending:=jmp lf2.e } lf2.s.lp from rfl,CW (q:=q2) (q':={ q2 with pending:=jmp lf2.e }) ⟨rfl,rfl,rfl,rfl⟩ m4]
  rw [iq e4 H2.lp lf2 m1]
  exact hlp2 lf k1 c1 r3 k2 q1 e2
 ·intro env s hI hw vs k hargs hs
  show ZM P p l vs s k
  obtain ⟨g,g1,g2,g3⟩:=hI.frame hf
  refine Hw [c0] (by rw [hI.lp];exact hl) g1 (fun t ht=>by rw [g2];simpa using (List.all_eq_true.1 hps) t ht) (by rw [hargs.len];exact hlen) ?_
  refine H.go env _ (hI.round l g2 g3 q.ps.toList hargs) hw _ (jg ?_ (kZ h hw hs))
  rintro lf hlf e ⟨hwe,c1,r3,e1,e2⟩ s1 hs1
  obtain ⟨a1,q1,a2,a3,pq,r2,r2',G,H2,a4,a5,a6⟩:=hF lf c1 r3 e1
  have hlS:=H.lp lf hlf
  obtain ⟨q0,b1,b2,b3,b4,b5⟩:=TJ hlS a2
  have:(y.round l f q.ps.toList args).lp=y.lp:=rfl
  rw [this,hl] at b1
  cases b1
  rw [a1]
  simp only [O7]
  rw [hs1.lp,a2]
  refine ⟨a3,b5.symm,?_⟩
  refine gJ (show TC P pq q.body _ _ from H2.go e _ (hs1.aU l _) hwe _ ?_)
  refine (ig dA a4 hs1.g hwe H2.lp).2 (R:=aa1 l s k) (jg ?_ (kZ a5 hwe e2))
  rintro lf2 hlf2 e3 ⟨hwe3,c3,r4,c4,c5⟩ s2 hs2
  obtain ⟨⟨d1,d2⟩,q2,d3,rfl⟩:=a6 lf2 c3 r4 c4
  have d4:=jY c5
  refine ⟨by rw [hs2.sv.len,hI.sv.len];exact d1,by rw [hs2.lp,hI.lp];exact d2,?_⟩
  rw [hs2.lp,d3]
  exact d4 _ _ (hs2.aU l _).pop (by simp only [ah];exact ⟨_,rfl,by rw [dP];cases lf2.e <;> rfl⟩)
theorem Vm (hI:Inst env y s):rds s=YW y:=by
 have:∀ {xs:List SFr} {vs:List Fr},dZ env xs vs→vs.map (·.rd)=xs.map (·.rd):=by
  intro xs
  induction xs with
  | nil=>intro vs h;simp only [dZ] at h;simp [h]
  | cons x xs ih=>intro vs h;simp only [dZ] at h;obtain ⟨g,l',rfl,h1,_,_,h4⟩:=h;simp [h1,ih h4]
 simp only [rds,YW,hI.rd,this hI.sv]
theorem Snd.range {f:FuncId} {g:Operand} {ps:Array Tmp} {a b cb:Code} {lc lcb:LC} {lv lvb:Lv} {l:Name} {gf:FuncId} {cap:List SV} {fn:Func} {c0:Nat} {r0 r1 r2 r:Res} {F:Leaf→Nat→Option Res} (hg:y.get g=some (.fn gf cap)) (hrd:Xc y=true) (hrs:some l ∉ YW y) (hl:aj l y.lp=none) (hy:y.jF l=false) (hyc:SV.jB l cap=false)
  (hcal:callable P gf=true) (hf:P.funcs[gf]? = some fn) (hb:fn.body=some cb) (hle:(SV.yld l::cap).length≤fn.ntmps) (hres:fn.results = #[]) (H:Snd P [c0] (.code gf cb lcb lvb) (y.eH l fn.ntmps (.yld l::cap) ⟨y.sv.length,ps,a,b,none⟩) r0)
  (h1:QL r0=some r1) (h2:fG y.g false r1=some r2) (h:kG r2 F=some r)
  (hF:∀ lf c r3,F lf c=some r3→(lf.s.sv.length=y.sv.length+1∧LG lf.s.lp=(l,y.sv.length)::LG y.lp)∧∃ nm q ql,lf.s.lp=(nm,q)::ql∧∃ e,r3=one e .dead (lf.s.bg y.rd) c∧((q.pending=none∧e = .norm)∨(∃ i,q.pending=some (some (.exit i))∧e = .exit i)∨(q.pending=some (some .ret)∧e = .ret))) :
  Snd P p (.code f (.rangeFunc g ps a b) lc lv) y r:=by
 have hl1:=PZ h1 H.lp
 have hl2:=iq h2 hl1
 constructor
 ·intro lf' hl'
  obtain ⟨lf,k1,c1,r3,k2,k3⟩:=jM h lf' hl'
  obtain ⟨⟨k4,_⟩,nm,q,ql,k5,e,rfl,_⟩:=hF lf c1 r3 k2
  rw [lI k3]
  show lpS (lf.s.bg y.rd).lp=lpS y.lp
  rw [Fp k5 (by intro e;rw [e] at k4;simp at k4)]
  have:=hl2 lf k1
  rw [k5] at this
  simp only [Sy.eH,lpS,List.map_cons,List.cons.injEq] at this
  exact this.2
 ·intro env s hI hw R hs
  have hgv:=hI.get hg
  simp only [ah] at hgv
  obtain ⟨cv,e1,e2⟩:=hgv
  have hrd' : s.rd=none∨∃ l0 q0,s.rd=some l0∧aj l0 s.lp=some q0∧some l0∈s.sv.map (·.rd):=by
   rw [hI.rd,hI.lp]
   unfold Xc at hrd
   split at hrd
   ·rename_i e;exact .inl e
   ·rename_i l0 e
    simp only [Bool.and_eq_true,List.contains_eq_mem,decide_eq_true_eq] at hrd
    obtain ⟨q0,hq0⟩:=Option.isSome_iff_exists.1 hrd.1
    refine .inr ⟨l0,q0,e,hq0,?_⟩
    have hrr:=Vm hI
    simp only [rds,YW,List.cons.injEq] at hrr
    rw [hrr.2];exact hrd.2
  refine CU l [c0] hrd' (by rw [Vm hI];exact hrs) (by rw [hI.lp];exact hl) (hI.jF hy) e1 (e2.jF l hyc) hcal hf hb (by simp only [List.length_cons] at hle ⊢; rw [e2.len];exact hle) (gJ ?_)
  have hargs:aA env (.yld l::cap) (.yld l::cv):=⟨_,_,rfl,rfl,e2⟩
  rw [hI.sv.len]
  refine H.go env _ (hI.eH l fn.ntmps hargs _) hw _ ?_
  have k1:=(ig dA h2 hI.g hw hl1).2 (R:=fun _ s'=>s'.sv.length=s.sv.length+1∧lpD s'.lp=(l,s.sv.length)::lpD s.lp∧match s'.lp with
   | (_,q)::_=>match q.pending with
    | none=>R .norm (s'.bg s.rd)
    | some none=>False
    | some (some c)=>ev P (lT P) [c0] c (s'.bg s.rd) R
   | []=>False) (jg (fun lf hlf e=>?_) (kZ h hw hs))
  ·refine jg ?_ (wC h1 k1)
   rintro lf hlf e hq s' hs'
   obtain ⟨e1,s2,w2,e2,e3,e4⟩:=hq s' hs'
   refine ⟨s2,w2,e1,e2,e3,?_⟩
   rw [hres]
   exact e4
  ·rintro ⟨hwe,c1,r3,g1,g2⟩ s' hs'
   obtain ⟨⟨d1,d2⟩,nm,q,ql,d3,ex,rfl,d4⟩:=hF lf c1 r3 g1
   have d5:=jY g2 _ (hs'.bg y.rd)
   rw [← hI.rd] at d5
   refine ⟨by rw [hs'.sv.len,hI.sv.len];exact d1,by rw [hs'.lp,hI.lp,hI.sv.len];exact d2,?_⟩
   rw [hs'.lp,d3]
   simp only
   rcases d4 with ⟨d6,rfl⟩ | ⟨i,d6,rfl⟩ | ⟨d6,rfl⟩
   ·rw [d6];exact d5
   ·rw [d6];exact d5
   ·rw [d6];exact d5
end
end Go.Tx
