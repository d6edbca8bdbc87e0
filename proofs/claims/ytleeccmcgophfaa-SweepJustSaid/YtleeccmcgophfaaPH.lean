import Derived.Test.YtleeccmcgophfaaPG
import Derived.Test.YtleeccmcgophfaaPD
set_option linter.all false
namespace Go.Tx
open Go Go.Ab
structure Cx where
 P:Program
 tb:Tab
 pl:FuncId→Nat→List Seg
 hl:Nat→Option (List Nat×List Name×List Name×Cv)
 sp:FuncId→Option Spec:=fun _=>none
def Cx.tbo (C:Cx):Tab:=fun g=>match C.sp g with
 | some _=>none
 | none=>C.tb g
mutual
def ZE:SV→Option Name
 | .vsl n=>some n
 | .vpt n _ _ _=>some n
 | .fn _ c=>AQ c
 | .agg c=>AQ c
 | .mix _ _ _ c=>AQ c
 | .tup c=>AQ c
 | .gd _ x=>ZE x
 | _=>none
def AQ:List SV→Option Name
 | []=>none
 | x::l=>match ZE x with
  | some n=>some n
  | none=>AQ l
end
def quick (C:Cx) (nm:Name) (g:FuncId) (args:List SV) (y:Sy):Option (Bs×Sy×SV) :=
 match C.sp g with
 | some sp=>vI C.P nm sp args y
 | none=>match PG C.tb y.g.length g args with
  | some (bs,z)=>some (bs,y.more (bs.map (·.2)),z)
  | none=>none
def Qe (C:Cx) (g:FuncId) (args:List SV) (y:Sy):Option (Name×Ty×E) :=
 match C.tb g,AQ args with
 | some _,some i=>match aj i y.vc with
  | some (u,q)=>some (i,u,q)
  | none=>none
 | _,_=>none
abbrev Hint:=List Nat×List Name×List Name×Cv
abbrev Log:=List (Nat×Hint)
structure Res where
 t:T
 L:List Leaf
 c:Nat
 log:Log
abbrev Ps:=List (Ty×List E)
def allOf {α β:Type} (f:α→Option β):List α→Option (List β)
 | []=>some []
 | x::xs=>match f x,allOf f xs with
  | some y,some ys=>some (y::ys)
  | _,_=>none
def Qg:List (List SV)→Option (List SV×List (List SV))
 | []=>some ([],[])
 | (x::xs)::l=>match Qg l with
  | some (hs,ts)=>some (x::hs,xs::ts)
  | none=>none
 | []::_=>none
def AU:SV→Bool
 | .dead=>true
 | _=>false
def joinL (F:List SV→Ps→SV×Ps):Nat→List (List SV)→Ps→Option (List SV×Ps)
 | 0,_,ps=>some ([],ps)
 | k+1,xs,ps=>match Qg xs with
  | some (hs,ts)=>match F hs ps with
   | (y,ps1)=>if AU y then none else match joinL F k ts ps1 with
    | some (ys,ps2)=>some (y::ys,ps2)
    | none=>none
  | none=>none
def abb (n0:Nat) (t:Ty) (xs:List (E×List SV)) (ps:Ps):E×Ps:=match xs with
 | []=>(.var 0,ps)
 | (b,l)::r=>if r.all (fun q=>q.1.same b)&&b.lt n0 then (b,ps) else (.var (n0+ps.length),ps++[(t,((b,l)::r).map fun q=>q.1)])
def Qh (n0:Nat):Nat→List SV→Ps→SV×Ps
 | 0,_,ps=>(.dead,ps)
 | d+1,zs,ps=>match zs with
  | []=>(.dead,ps)
  | z::rest=>if rest.all (fun x=>x.same z)&&z.lt n0 then (z,ps) else match z with
   | .e t _=>match allOf (fun x=>match x with | .e u y=>if u=t then some y else none | _=>none) zs with
    | some xs=>(.e t (.var (n0+ps.length)),ps++[(t,xs)])
    | none=>(.dead,ps)
   | .own i sz t _=>match allOf (fun x=>match x with | .own j _ u y=>if u=t∧i=j then some y else none | _=>none) zs with
    | some xs=>(.own i sz t (.var (n0+ps.length)),ps++[(.sl t,xs)])
    | none=>(.dead,ps)
   | .mpc k t _=>match allOf (fun x=>match x with | .mpc q u y=>if u=t∧q=k then some y else none | _=>none) zs with
    | some xs=>(.mpc k t (.var (n0+ps.length)),ps++[(.mp k t,xs)])
    | none=>(.dead,ps)
   | .ref t _ o=>match allOf (fun x=>match x with | .ref u y a=>if u=t∧a=o then some y else none | _=>none) zs with
    | some xs=>(.ref t (.var (n0+ps.length)) o,ps++[(t,xs)])
    | none=>(.dead,ps)
   | .agg cs=>match allOf (fun x=>match x with | .agg y=>if y.length=cs.length then some y else none | _=>none) zs with
    | some xs=>match joinL (Qh n0 d) cs.length xs ps with
     | some (ys,ps)=>(.agg ys,ps)
     | none=>(.dead,ps)
    | none=>(.dead,ps)
   | .mix t _ os cs=>match allOf (β:=E×List SV) (fun x=>match x with | .mix u y ps ws=>if u=t∧ps=os then some (y,ws) else none | _=>none) zs with
    | some xs=>match abb n0 t xs ps with
     | (b,ps0)=>match joinL (Qh n0 d) cs.length (xs.map fun q=>q.2) ps0 with
      | some (ys,ps1)=>(.mix t b os ys,ps1)
      | none=>(.dead,ps)
    | none=>(.dead,ps)
   | .fn f cs=>match allOf (fun x=>match x with | .fn g y=>if y.length=cs.length∧f=g then some y else none | _=>none) zs with
    | some xs=>match joinL (Qh n0 d) cs.length xs ps with
     | some (ys,ps)=>(.fn f ys,ps)
     | none=>(.dead,ps)
    | none=>(.dead,ps)
   | _=>(.dead,ps)
def VK (n0:Nat) (ys:List Sy):List (Nat×SV)→Ps→List (Nat×SV)×Ps
 | [],ps=>([],ps)
 | (t,_)::l,ps=>match Qh n0 4 (ys.map fun y=>lkS t y.ts) ps with
  | (z,ps1)=>match VK n0 ys l ps1 with
   | (r,ps2)=>if AU z then (r,ps2) else ((t,z)::r,ps2)
def Qi (n0:Nat) (ys:List Sy):List (Name×SV)→Ps→List (Name×SV)×Ps
 | [],ps=>([],ps)
 | (n,_)::l,ps=>match allOf (fun (y:Sy)=>aj n y.bx) ys with
  | some zs=>match Qh n0 4 zs ps with
   | (z,ps1)=>match Qi n0 ys l ps1 with
    | (r,ps2)=>if AU z then (r,ps2) else ((n,z)::r,ps2)
  | none=>Qi n0 ys l ps
def ZF (a b:List Name):List Name:=a.filter fun i=>b.contains i
def JY (n0:Nat) (ys:List Sy):List (Name×Ty×E)→Ps→List (Name×Ty×E)×Ps
 | [],ps=>([],ps)
 | (n,t,x)::l,ps=>match allOf (fun (y:Sy)=>match aj n y.vc with | some (u,e)=>if u=t then some e else none | none=>none) ys with
  | some es=>if es.all (fun e=>e.same x)&&x.lt n0 then (match JY n0 ys l ps with | (r,ps2)=>((n,t,x)::r,ps2))
   else (match JY n0 ys l (ps++[(.sl t,es)]) with | (r,ps2)=>((n,t,.var (n0+ps.length))::r,ps2))
  | none=>JY n0 ys l ps
def Qj (ys:List Sy) (n:Name):Bool:=match ys with
 | []=>true
 | y::rest=>match aj n y.vc with
  | some (t,_)=>rest.all fun z=>match aj n z.vc with | some (u,_)=>decide (u=t) | none=>false
  | none=>false
def XF (ys:List Sy) (common:List Name):List Name:=((ys.flatMap fun z=>(z.vc.map (·.1)).filter fun n=>!Qj ys n).eraseDups).map fun n=>if common.contains n then 987654321::n else n
mutual
def JZ:SV→List Name
 | .vsl n=>[n]
 | .vpt n _ _ _=>[n]
 | .fn _ c=>yC c
 | .agg c=>yC c
 | .mix _ _ _ c=>yC c
 | .tup c=>yC c
 | .gd _ x=>JZ x
 | _=>[]
def yC:List SV→List Name
 | []=>[]
 | x::l=>JZ x++yC l
end
def XG (ys:List Sy):List Name:=match ys with
 | []=>[]
 | y::_ =>
  let cols:=(y.ts.map fun x=>ys.map fun z=>JZ (lkS x.1 z.ts))++(y.bx.map fun x=>ys.map fun z=>JZ ((aj x.1 z.bx).getD .dead))
  ((cols.flatMap fun col=>(col.flatMap id).filter fun n=>col.any fun c=>!c.contains n).eraseDups).filter (Qj ys)
structure Join where
 ids:List Name
 cv:Cv
 y:Sy
 ps:List Ty
 as:List (List E)
def kindOf:SV→Nat×Option Ty×Name
 | .e t _=>(1,some t,[])
 | .own i _ t _=>(2,some (.sl t),i)
 | .nil=>(3,none,[])
 | .agg _=>(4,none,[])
 | .mix t _ os _=>(6,some t,os)
 | .kd _=>(5,none,[])
 | _=>(0,none,[])
def jH {κ:Type} (f:κ→Sy→SV) (ys:List Sy):List κ→List (κ×Ty)
 | []=>[]
 | k::l =>
  let ks:=ys.map fun y=>kindOf (f k y)
  match ks with
  | []=>jH f ys l
  | (n,w,i)::rest=>if n≠0∧rest.any (fun r=>r.1≠n || r.2.2≠i)&&ks.all (fun r=>r.1≠0) then (match ks.findSome? (fun r=>if r.1=1 then r.2.1 else none),ks.findSome? (fun r=>r.2.1) with
    | some w,_=>(k,w)::jH f ys l
    | none,some w=>(k,w)::jH f ys l
    | none,none=>jH f ys l)
   else jH f ys l
def XH (g0:List Ty) (ys:List Sy):Option Join :=
 match ys with
 | []=>none
 | y::rest =>
  let common:=rest.foldl (fun a z=>ZF a z.ow) y.ow
  let ids:=(ys.flatMap fun z=>z.ow.filter fun i=>!common.contains i).eraseDups++XF ys common++(XG ys).map fun n=>if common.contains n then 987654321::n else n
  let zs0:=ys.map (kW ids)
  let cv:=(jH (fun t (y:Sy)=>lkS t y.ts) zs0 (match zs0 with | z::_=>z.ts.map (·.1) | []=>[]),jH (fun n (y:Sy)=>(aj n y.bx).getD .dead) zs0 (match zs0 with | z::_=>z.bx.map (·.1) | []=>[]))
  let zs:=zs0.map (XC cv)
  match zs with
  | []=>none
  | z::_ =>
   let (ts,p1):=VK g0.length zs z.ts []
   let (bx,p2):=Qi g0.length zs z.bx p1
   let (vc,p3):=JY g0.length zs z.vc p2
   let ps:=p3.map (·.1)
   some ⟨ids,cv,{ z with g:=g0++ps,ts:=ts,bx:=bx,ow:=common,vc:=vc },ps,(List.range ys.length).map fun i=>p3.map fun p=>p.2.getD i (.var 0)⟩
def VL (a b:Leaf):Bool:=JU a.e b.e&&lpB a.s.lp b.s.lp
def classes:List Leaf→List Leaf→List Leaf
 | [],acc=>acc.reverse
 | x::l,acc=>if acc.any (VL x) then classes l acc else classes l (x::acc)
def kX (g0:List Ty) (force:Bool) (rep:Leaf) (r:Res):Option Res :=
 let mem:=r.L.filter fun x=>VL x rep
 if !force&&(mem.length≤1:Bool) then some r
 else match XH g0 (mem.map (·.s)) with
  | some j=>if j.y.g=g0++j.ps then (match glue g0.length j.ids j.cv j.y j.ps rep j.as r.t r.L with
   | some (t,L)=>some { r with t:=t,L:=L }
   | none=>none) else none
  | none=>none
def fA (g0:List Ty) (force:Bool) (r:Res):Option Res :=
 (classes r.L []).foldl (fun (acc:Option Res) (rep:Leaf)=>match acc with | some r=>kX g0 force rep r | none=>none) (some r)
structure Lv where
 n:List Nat
 ex:List (Nat×List Nat)
 r:List Nat
inductive LC where
 | nil | seq (lb:List Nat) (a b:LC) | two (a b:LC) | loop (l:List Nat) (b:LC)
 deriving Inhabited
def Y7 (t:Nat):List Nat→Bool
 | []=>false
 | a::l=>if Nat.beq a t then true else Y7 t l
def addN (t:Nat) (l:List Nat):List Nat:=if Y7 t l then l else t::l
def Y8:List Nat→List Nat→List Nat
 | [],l=>l
 | t::k,l=>addN t (Y8 k l)
def Iu (i:Nat):List (Nat×List Nat)→List Nat
 | []=>[]
 | (a,l)::k=>if Nat.beq a i then l else Iu i k
def abH (lv:Lv):Ex→List Nat
 | .norm=>lv.n
 | .exit i=>Iu i lv.ex
 | .ret=>lv.r
def ZG:Operand→List Nat→List Nat
 | .tmp t,l=>addN t l
 | _,l=>l
def XI:List Operand→List Nat→List Nat
 | [],l=>l
 | o::os,l=>ZG o (XI os l)
def abI (all:Array Oper):List Oper→List Nat→List Nat
 | [],l=>l
 | o::os,l =>
  let after:=abI all os l
  let cut:=match o.dst with | some d=>after.filter fun t=>!Nat.beq t d | none=>after
  XI o.op.operands.toList (match o.guard with
   | some (j,_)=>(match (all[j]?).bind (·.dst) with | some t=>addN t cut | none=>cut)
   | none=>cut)
def lY:Code→List Nat→List Nat
 | .region _ ops _,l=>ops.toList.foldr (fun o l=>XI o.op.operands.toList l) l
 | .seq a b,l=>lY a (lY b l)
 | .cond c a b,l=>ZG c (lY a (lY b l))
 | .block _ b,l=>lY b l
 | .scope b,l=>lY b l
 | .loop b,l=>lY b l
 | .rangeFunc g _ a b,l=>ZG g (lY a (lY b l))
 | _,l=>l
def qW:Code→Lv→List Nat×LC
 | .region _ ops _,lv=>(abI ops ops.toList lv.n,.nil)
 | .seq a b,lv=>match qW b lv with
  | (lb,B)=>match qW a { lv with n:=lb } with
   | (la,A)=>(la,.seq lb A B)
 | .cond c a b,lv=>match qW a lv,qW b lv with
  | (la,A),(lb,B)=>(ZG c (Y8 la lb),.two A B)
 | .block id b,lv=>match qW b { lv with ex:=(id,lv.n)::lv.ex } with
  | (l,B)=>(l,.two B .nil)
 | .loop b,lv=>match qW b { lv with n:=[] } with
  | (l,_)=>match qW b { lv with n:=l } with
   | (_,B)=>(l,.loop l B)
 | .rangeFunc g _ a b,lv=>(ZG g (lY a (lY b (Y8 lv.n (Y8 lv.r (lv.ex.foldr (fun x l=>Y8 x.2 l) []))))),.nil)
 | .scope b,lv=>match qW b lv with
  | (l,B)=>(l,.two B .nil)
 | .exit i,lv=>(Iu i lv.ex,.nil)
 | .ret,lv=>(lv.r,.nil)
 | _,lv=>(lv.n,.nil)
def aaQ:List ResultVar→List Nat
 | []=>[]
 | .tmp t::rs=>addN t (aaQ rs)
 | .cell a _::rs=>addN a (aaQ rs)
def lv0:Lv:=⟨[],[],[]⟩
def lvF (rs:List ResultVar):Lv:=⟨aaQ rs,[],aaQ rs⟩
def LC.a:LC→LC
 | .seq _ a _=>a
 | .two a _=>a
 | .loop _ b=>b
 | .nil=>.nil
def LC.b:LC→LC
 | .seq _ _ b=>b
 | .two _ b=>b
 | _=>.nil
def LC.l:LC→List Nat
 | .seq l _ _=>l
 | .loop l _=>l
 | _=>[]
def AV (kp:List Nat) (y:Sy):Sy:={ y with ts:=y.ts.filter fun x=>Y7 x.1 kp,bx:=y.bx.map fun x=>(x.1,x.2.norm) }
def keepR (lv:Lv) (r:Res):Res:={ r with L:=r.L.map fun lf=>{ lf with s:=AV (abH lv lf.e) lf.s } }
def binds:Bs→T→T
 | [],t=>t
 | b::bs,t=>.bind b.1 b.2 (binds bs t)
def iF (k n:Nat) (t:T):T:=t.sub fun i=>if i<n then .hole (i+k) else .fail
def Ur (f:Leaf→Nat→Option Res):List Leaf→Nat→Nat→Option (List T×List Leaf×Nat×Log)
 | [],_,c=>some ([],[],c,[])
 | lf::L,off,c=>match f lf c with
  | some r=>match Ur f L (off+r.L.length) r.c with
   | some (ts,Ls,c2,lg)=>some ((if off=0∧L.isEmpty=true then r.t else iF off r.L.length r.t)::ts,r.L++Ls,c2,r.log++lg)
   | none=>none
  | none=>none
def kF (r:Res) (f:Leaf→Nat→Option Res):Option Res :=
 match Ur f r.L 0 r.c with
 | some (ts,Ls,c,lg)=>some ⟨r.t.sub (fun i=>ts.getD i .fail),Ls,c,r.log++lg⟩
 | none=>none
def ML (f:Leaf→Leaf) (r:Res):Res:={ r with L:=r.L.map f }
def one (e:Ex) (v:SV) (y:Sy) (c:Nat):Res:=⟨.hole 0,[⟨e,v,y⟩],c,[]⟩
def VN (n0:Nat) (z:SV) (ps:Ps):SV×Ps:=match z with
 | .e (.cst c) x=>(.e (.cst c) x,ps)
 | .e t x=>(.e t (.var (n0+ps.length)),ps++[(t,[x])])
 | .own i sz t x=>(.own i sz t (.var (n0+ps.length)),ps++[(.sl t,[x])])
 | .mpc k t x=>(.mpc k t (.var (n0+ps.length)),ps++[(.mp k t,[x])])
 | z=>(z,ps)
def Qk (n0:Nat):List SV→Ps→List SV×Ps
 | [],ps=>([],ps)
 | z::l,ps=>match VN n0 z ps with
  | (z1,ps1)=>match Qk n0 l ps1 with
   | (r,ps2)=>(z1::r,ps2)
def ZH (n0:Nat) (z:SV) (ps:Ps):SV×Ps:=match z with
 | .agg cs=>match Qk n0 cs ps with | (ds,ps1)=>(.agg ds,ps1)
 | .mix t x os cs=>match Qk n0 cs (ps++[(t,[x])]) with | (ds,ps1)=>(.mix t (.var (n0+ps.length)) os ds,ps1)
 | z=>VN n0 z ps
def Ql {κ:Type} (n0:Nat) (ch:κ→Bool):List (κ×SV)→Ps→List (κ×SV)×Ps
 | [],ps=>([],ps)
 | (t,z)::l,ps=>match (if ch t then ZH n0 z ps else (z,ps)) with
  | (z1,ps1)=>match Ql n0 ch l ps1 with
   | (r,ps2)=>((t,z1)::r,ps2)
def Qm (n0:Nat) (ch:Name→Bool):List (Name×Ty×E)→Ps→List (Name×Ty×E)×Ps
 | [],ps=>([],ps)
 | (n,t,x)::l,ps=>if ch n then (match Qm n0 ch l (ps++[(.sl t,[x])]) with | (r,ps2)=>((n,t,.var (n0+ps.length))::r,ps2))
  else (match Qm n0 ch l ps with | (r,ps2)=>((n,t,x)::r,ps2))
def Qn (g0:List Ty) (h:Option Hint) (y:Sy):Sy×List Ty×List E :=
 let (ts,p1):=Ql g0.length (fun t=>match h with | some h=>h.1.contains t | none=>true) y.ts []
 let (bx,p2):=Ql g0.length (fun n=>match h with | some h=>h.2.1.contains n | none=>true) y.bx p1
 let (vc,p3):=Qm g0.length (fun n=>match h with | some h=>h.2.1.contains n | none=>true) y.vc p2
 ({ y with g:=g0++p3.map (·.1),ts:=ts,bx:=bx,vc:=vc },p3.map (·.1),p3.map fun p=>p.2.headD (.var 0))
def NH:Option Hint→List Name
 | some h=>h.2.2.1
 | none=>[]
def hCv:Option Hint→Cv
 | some h=>h.2.2.2
 | none=>([],[])
def VO:SV→SV→List (Nat×E)
 | .e _ (.var i),.e _ x=>[(i,x)]
 | .own _ _ _ (.var i),.own _ _ _ x=>[(i,x)]
 | .mpc _ _ (.var i),.mpc _ _ x=>[(i,x)]
 | .agg cs,.agg ds=>(cs.zip ds).flatMap fun z=>match z with
  | (.e _ (.var i),.e _ x)=>[(i,x)]
  | (.own _ _ _ (.var i),.own _ _ _ x)=>[(i,x)]
  | _=>[]
 | .mix _ (.var i) _ cs,.mix _ x _ ds=>(i,x)::(cs.zip ds).flatMap fun z=>match z with
  | (.e _ (.var i),.e _ x)=>[(i,x)]
  | (.own _ _ _ (.var i),.own _ _ _ x)=>[(i,x)]
  | _=>[]
 | _,_=>[]
def ZI (i:Nat):List (Nat×E)→E
 | []=>.var i
 | (j,x)::l=>if Nat.beq i j then x else ZI i l
def XJ (n0 np:Nat) (yJ y:Sy):List E :=
 let m:=(yJ.ts.flatMap fun x=>VO x.2 (lkS x.1 y.ts))++(yJ.bx.flatMap fun x=>match aj x.1 y.bx with | some z=>VO x.2 z | none=>[])++(yJ.vc.flatMap fun x=>match x.2.2,aj x.1 y.vc with | .var i,some (_,e)=>[(i,e)] | _,_=>[])
 (List.range np).map fun k=>ZI (n0+k) m
def FP (h:Option Hint) (yJ:Sy) (ys:List Sy):Hint :=
 let cv:Cv:=(jH (fun t (y:Sy)=>lkS t y.ts) (yJ::ys) (yJ.ts.map (·.1)),jH (fun n (y:Sy)=>(aj n y.bx).getD .dead) (yJ::ys) (yJ.bx.map (·.1)))
 ((yJ.ts.filter fun x=>ys.any fun y=>!(lkS x.1 y.ts).same x.2).map (·.1),(yJ.bx.filter fun x=>ys.any fun y=>match aj x.1 y.bx with | some z=>!z.same x.2 | none=>true).map (·.1)++(yJ.vc.filter fun x=>ys.any fun y=>match aj x.1 y.vc with | some (_,e)=>!e.same x.2.2 | none=>true).map (·.1),
  NH h++(yJ.ow.filter fun i=>ys.any fun y=>!y.ow.contains i)++((yJ.vc.filter fun x=>ys.any fun y=>(aj x.1 y.vc).isNone).map fun x=>987654321::x.1),((hCv h).1++cv.1,(hCv h).2++cv.2))
def vK:Ex→Bool
 | .norm=>true
 | _=>false
def XK (g0:List Ty) (hh:Option Hint) (yL:Sy) (ps:List Ty) (init:List E) (c0:Nat) (r:Res):Option Res :=
 match sigma g0.length (NH hh) (hCv hh) yL ⟨.norm,.dead,yL⟩ r.L (((r.L.filter fun lf=>vK lf.e).map fun lf=>uN (NH hh) (hCv hh) lf.s).map fun y=>XJ g0.length ps.length yL y) 0 with
 | some (ts,os)=>if os.all (fun lf=>!vK lf.e)=true then fA g0 true ⟨.loop ps init ((r.t.lift 0).sub fun i=>ts.getD i .fail),os,r.c,(c0,FP hh yL ((r.L.filter fun lf=>vK lf.e).map (·.s)))::r.log⟩ else none
 | none=>fA g0 true ⟨.fail,r.L.filter fun lf=>!vK lf.e,r.c,(c0,FP hh yL ((r.L.filter fun lf=>vK lf.e).map (·.s)))::r.log⟩
def RY:Nat→List SV→List (Nat×SV)
 | _,[]=>[]
 | i,v::vs=>(i,v)::RY (i+1) vs
def Sy.push (y:Sy) (n:Nat) (args:List SV):Sy:={ y with rd:=none,n:=n,ts:=RY 0 args,sv:=⟨y.rd,y.n,y.ts⟩::y.sv }
def Sy.pop (y:Sy):Sy:=match y.sv with
 | f::fs=>{ y with rd:=f.rd,n:=f.n,ts:=f.ts,sv:=fs }
 | []=>y
def Sy.dU (y:Sy) (l:Name) (nt:Nat) (args:List SV) (q:Lp):Sy:={ y with rd:=none,n:=nt,ts:=RY 0 args,sv:=⟨some l,y.n,y.ts⟩::y.sv,lp:=(l,q)::y.lp }
def Sy.dQ (y:Sy):Sy:=match y.sv with
 | f::fs=>{ y with rd:=none,n:=f.n,ts:=f.ts,sv:=fs,lp:=y.lp.tail }
 | []=>y
def Sy.aX (y:Sy) (r:Option Name):Sy:=match y.sv with
 | f::fs=>{ y with rd:=r,n:=f.n,ts:=f.ts,sv:=fs,lp:=y.lp.tail }
 | []=>y
def XL (y:Sy):Bool:=match y.rd with
 | none=>true
 | some l=>(aj l y.lp).isSome&&(y.sv.map (·.rd)).contains (some l)
def Sy.aT (y:Sy) (l:Name) (q:Lp):Sy:={ y with lp:=Ab.cO l q y.lp }
def Iw:List Nat→List SV→List (Nat×SV)→List (Nat×SV)
 | t::ts,v::vs,l=>Iw ts vs (OU t v l)
 | _,_,l=>l
def yD (y:Sy):List SFr:=⟨y.rd,y.n,y.ts⟩::y.sv
def Sy.round (y:Sy) (l:Name) (f:SFr) (ps:List Nat) (args:List SV):Sy:={ y with rd:=some l,n:=f.n,ts:=Iw ps args f.ts,sv:=⟨y.rd,y.n,y.ts⟩::y.sv }
def ZJ (y:Sy):List (Option Name):=y.rd::y.sv.map (·.rd)
def resV (P:Program) (y:Sy):List ResultVar→Option (List SV)
 | []=>some []
 | .tmp t::rs=>(resV P y rs).map fun vs=>lkS t y.ts::vs
 | .cell a t::rs=>match zX P t with
  | some ag=>if ag=true∨tsz P t≠0 then (match lkS a y.ts with
   | .ptr nm off=>match aj nm y.bx with
    | some c=>match CP ag (tyD P t) off (tsz P t) c with
     | some z=>(resV P y rs).map fun vs=>z::vs
     | none=>none
    | none=>none
   | _=>none) else none
  | none=>none
def Qo:List SV→SV
 | [v]=>v
 | vs=>.tup vs
def XM:Ex→Bool
 | .exit _=>true
 | _=>false
def RZ (r:Res):Option Res:=if r.L.any (fun lf=>XM lf.e) then none else some (ML (fun lf=>{ lf with e:=.ret }) r)
def Qp:Ex→Bool
 | .norm=>true
 | _=>false
def J3:Name→FuncId
 | [_,f]=>f
 | _=>0
def qX:SV→Bool
 | .nil=>false
 | .gd _ x=>qX x
 | _=>true
def Iy:Option SV→Bool
 | some z=>qX z
 | none=>false
def Qq (y:Sy):Op→Bool
 | .binOp _ _ _ z _=>Iy (y.get z)
 | .assign x=>Iy (y.get x)
 | _=>true
def J4 (C:Cx) (p:Name) (all:Array Oper):List Nat→Sy→Option (Bs×Sy)
 | [],y=>some ([],y)
 | i::l,y=>match all[i]? with
  | some o=>if Qq y o.op=true then (match FD C.P C.tb p all y o with
   | some (bs,y1)=>match J4 C p all l y1 with
    | some (bs2,y2)=>some (bs++bs2,y2)
    | none=>none
   | none=>none) else none
  | none=>none
structure Eh where
 i:Nat
 z:SV
 w:List (Name×SV)
 wv:List (Name×Ty×E):=[]
def MN (H:List Name) (y:Sy):Sy:={ y with bx:=y.bx.filter fun x=>!H.contains x.1,vc:=y.vc.filter fun x=>!H.contains x.1 }
def abd (P:Program) (ty:TypeId) (y:Sy) (n:Name) (u:Ty) (i:E) (inn:Nat) (v:SV):Option (Bs×Sy×Ty×E) :=
 match aj n y.vc,asE (tyD P ty) (ND (tyD P ty) v) with
 | some (u',l),some (w,e)=>if u' = u∧w.size=tsz P ty∧tsz P ty≠0∧(xP (ND (tyD P ty) v)).isSome=true∧w=u∧inn=0 then
   some ([(.r3 .lset l i e,.sl u)],({ y.more [.sl u] with vc:=(n,(u,.var y.g.length))::y.vc }:Sy),u,.var y.g.length) else none
 | _,_=>none
def VP (d:Option Tmp) (y:Sy):SV:=match d with | some t=>lkS t y.ts | none=>.dead
def Qr (bs:Bs) (e:Eh):Option (Bs×List Eh×Sy)→Option (Bs×List Eh×Sy)
 | some (bs2,L,y)=>some (bs++bs2,e::L,y)
 | none=>none
def Si (C:Cx) (p:Name) (all:Array Oper) (H:Nat→List Name):List Nat→Sy→Option (Bs×List Eh×Sy)
 | [],y=>some ([],[],y)
 | i::rest,y=>match all[i]? with
  | some o=>match o.op with
   | .alloc ty=>match o.dst,o.guard with
    | some t,none=>match JH C.P ty with
     | some z=>if t<y.n∧(H i).contains (t::p)=false∧qX z=true∧xP z=some (tsz C.P ty)∧isNone' (aj (t::p) y.bx)=true then
       Qr [] ⟨i,.ptr (t::p) 0,[(t::p,z)],[]⟩ (Si C p all H rest (({ y with bx:=(t::p,z)::y.bx }:Sy).put (some t) (.ptr (t::p) 0))) else none
     | none=>none
    | _,_=>none
   | .store ty x v=>match o.dst,o.guard,y.get x,y.get v with
    | none,none,some (.ptr nm off),some zv=>match aj nm y.bx,JA off (ND (tyD C.P ty) zv) ((aj nm y.bx).getD .dead) with
     | some _,some c'=>if (H i).contains nm=false∧qX zv=true∧tsz C.P ty≠0∧xP (ND (tyD C.P ty) zv)=some (tsz C.P ty) then
       Qr [] ⟨i,.dead,[(nm,c')],[]⟩ (Si C p all H rest { y with bx:=(nm,c')::y.bx }) else none
     | _,_=>none
    | none,none,some (.vpt nm u ix inn),some zv=>match abd C.P ty y nm u ix inn zv with
     | some (bs,y1,w,e)=>if (H i).contains nm=false∧qX zv=true then Qr bs ⟨i,.dead,[],[(nm,(w,e))]⟩ (Si C p all H rest y1) else none
     | none=>none
    | _,_,_,_=>none
   | _=>if calm o.op=true∧o.dst.isSome=true∧Qq y o.op=true then (match FD C.P C.tb p all (MN (H i) y) o with
     | some (bs,y1)=>Qr bs ⟨i,VP o.dst y1,[],[]⟩ (Si C p all H rest { y1 with bx:=y.bx,vc:=y.vc })
     | none=>none) else none
  | none=>none
def aaR (all:Array Oper):List Nat→List (Nat×List Nat)→List (Nat×List Nat)
 | [],acc=>acc
 | i::rest,acc=>aaR all rest ((i,(lD all i).foldl (fun l q=>Y8 (Iu q acc) l) (lD all i))::acc)
def FQ (e:Eh):List Name:=e.w.map (·.1)++e.wv.map (·.1)
def hOf (pre:Nat→List Nat) (L:List Eh) (i:Nat):List Name:=L.flatMap fun e=>if ET pre i e.i then FQ e else []
def XO (all:Array Oper) (p:Name) (pre:Nat→List Nat) (H:Nat→List Name) (y0:Sy) (L:List Eh):Bool :=
 L.all (fun e=>L.all fun x=>!ET pre e.i x.i || (FQ x).all fun y=>(H e.i).contains y&&(FQ e).all fun z=>!decide (z=y)) &&
 L.all (fun e=>(WS all p e.i).all fun nm=>!y0.refs nm&&L.all fun x=>Nat.beq e.i x.i || ((pre x.i).contains e.i || (!x.z.refs nm&&x.w.all fun y=>!y.2.refs nm)))
def ddN {α:Type}:List (Name×α)→List (Name×α)
 | []=>[]
 | x::l=>x::(ddN l).filter fun y=>!decide (y.1=x.1)
def abe (C:Cx) (p:Name) (all:Array Oper) (ord:List Nat) (y:Sy) (c:Nat):Option Res :=
 let pl:=aaR all ord []
 let pre:=fun i=>Iu i pl
 if WT all pre ord=true then (match Si C p all (fun _=>[]) ord y with
  | some (_,L0,_)=>match Si C p all (hOf pre L0) ord y with
   | some (bs,L,y1)=>if XO all p pre (hOf pre L0) y L=true then some ⟨binds bs (.hole 0),[⟨.norm,.dead,{ y1 with bx:=ddN y1.bx,vc:=ddN y1.vc }⟩],c,[]⟩ else none
   | none=>none
  | none=>none) else none
def XP (P:Program) (t:TypeId):List (Nat×Ty):=match P.underlying t with
 | some (.struct fs)=>fs.toList.filterMap fun f=>match fJ P f.type with
  | some e=>(tyD P e).map fun w=>(f.offset,w)
  | none=>none
 | _=>[]
def Us (C:Cx) (p:Name) (ops:Array Oper):List (Name×Nat×Ty×Bool):=ops.toList.flatMap fun o=>match o.op,o.dst with
 | .box t _,some d=>(XP C.P t).map fun x=>(d::p,x.1,x.2,(C.sp (2000000+t * 1000+x.1)).isSome)
 | _,_=>[]
def yE (cl:List (Name×Nat×Ty×Bool)) (r:Res):Res:={ r with L:=r.L.map fun lf=>{ lf with s:=Di cl lf.s } }
mutual
def NI:SV→Bool
 | .ref _ _ _=>false
 | .mpc _ _ _=>false
 | .fn _ c=>Ut c
 | .agg c=>Ut c
 | .mix _ _ _ c=>Ut c
 | .tup c=>Ut c
 | .gd _ x=>NI x
 | _=>true
def Ut:List SV→Bool
 | []=>true
 | x::l=>NI x&&Ut l
end
def Uu (y s:Sy) (n:Name):Bool:=(match aj n y.bx with
  | some z=>(match aj n s.bx with | some u=>NI z&&z.same u | none=>false)
  | none=>true)&&(match aj n y.vc with
  | some (t,x)=>(match aj n s.vc with | some (u,e)=>decide (t=u)&&x.same e | none=>false)
  | none=>true)
def abJ (y:Sy):List Name:=y.bx.map (·.1)++y.vc.map (·.1)
def abK (y:Sy) (L:List Leaf):List Name:=(abJ y).filter fun n=>!L.all fun lf=>Uu y lf.s n
def Uw (n:Name):SV→Bool
 | .ptr m _=>decide (m=n)
 | _=>false
def XQ (ds:List Tmp) (y s:Sy):SV→Bool
 | .e _ _=>true
 | .nil=>true
 | .ref _ _ _=>true
 | .ptr n _=>y.ts.any fun x=>!ds.contains x.1&&(Uw n (lkS x.1 y.ts)&&Uw n (lkS x.1 s.ts))
 | _=>false
def aaS (all:Array Oper) (hb:Sy) (l2:List Nat) (d:Option Tmp) (y1 y2 s:Sy):Bool :=
 (abJ hb).all (fun n=>Uu hb s n)&&(Nat.beq s.n y1.n &&
  l2.all fun q=>(readsOf all q).all (fun u=>l2.any (fun r=>decide (aS all r=some u)) || (NI (lkS u y1.ts)&&(lkS u y1.ts).same (lkS u s.ts)))&&XQ (d.toList++l2.filterMap (aS all)) y1 s (VP (aS all q) y2))
def yF (all:Array Oper) (s:Sy) (l:List (Nat×SV)):Sy:=l.foldl (fun s x=>s.put (aS all x.1) x.2) s
def ZK (all:Array Oper) (l2:List Nat) (y:Sy):Bool:=l2.all fun q=>match aS all q with
 | some d=>AU (lkS d y.ts)
 | none=>true
def ZL (C:Cx) (p:Name) (all:Array Oper) (pl:List Seg) (y:Sy):List Name:=match pl with
 | .beside l1 l2 _::_=>match J4 C p all (l1++l2) y with
  | some (_,y1)=>(l2.flatMap fun q=>match VP (aS all q) y1 with
   | .own i _ _ _=>[i]
   | .vsl i=>[i]
   | _=>[]).eraseDups
  | none=>[]
 | _=>[]
inductive Task where
 | code (f:FuncId) (c:Code) (lc:LC) (lv:Lv)
 | ops (f:FuncId) (all:Array Oper) (l:List Oper)
 | plan (f:FuncId) (all:Array Oper) (l:List Seg)
 | bes (f:FuncId) (all:Array Oper) (l2:List Nat) (hb y2:Sy) (js:List Nat) (rest:List Seg)
 | call (g:FuncId) (args:List SV)
 | yld (l:Name) (args:List SV)
def MO (l:List (Name×Lp)):List (Name×Nat):=l.map fun x=>(x.1,x.2.depth)
def XR (g:E) (y:Sy):Sy:={ y with ts:=y.ts.map fun x=>(x.1,uK [g] x.2) }
def XT (g:E) (z:SV):SV:=match z with
 | .gd gs x=>if gs.any (fun h=>h.same g) then .tup [] else .gd gs x
 | z=>z
def XU (g:E) (y:Sy):Sy:={ y with ts:=y.ts.map fun x=>(x.1,XT g x.2) }
def vM (C:Cx) (rec:Name→Task→Sy→Nat→Option Res) (p:Name) (f:FuncId) (all:Array Oper) (rest:List Oper) (o:Oper) (y:Sy) (c:Nat):Option Res :=
 match o.op with
 | .call cl=>match cl.callee with
  | .value fv=>match y.get fv,getAll y.get cl.args.toList with
   | some z,some args =>
    let p':=o.dst.getD 0::p
    match (match z with
     | .e (.cst (.fnc g)) _=>if callable C.P g=true then rec p' (.call g args) y c else none
     | .fn g cap=>if callable C.P g=true then rec p' (.call g (args++cap)) y c else none
     | .yld l=>rec p' (.yld l args) y c
     | _=>none) with
    | some r=>kF r fun lf c=>if zL lf.s.n o.dst=true then rec p (.ops f all rest) (lf.s.put o.dst lf.v) c else none
    | none=>none
   | _,_=>none
  | _=>none
 | _=>none
def cmp (C:Cx):Nat→Name→Task→Sy→Nat→Option Res
 | 0,_,_,_,_=>none
 | n+1,p,t,y,c=>match t with
  | .code f cd lc lv=>match cd with
   | .skip=>some (one .norm .dead y c)
   | .label _=>some (one .norm .dead y c)
   | .scope b=>cmp C n p (.code f b lc.a lv) y c
   | .exit i=>some (one (.exit i) .dead y c)
   | .ret=>some (one .ret .dead y c)
   | .region _ ops false=>(cmp C n p (.ops f ops ops.toList) y c).map fun r=>keepR lv (yE (Us C p ops) (ML (fun lf=>{ lf with e:=.norm }) r))
   | .region id ops true=>if jB ops [] (C.pl f id)=true then (cmp C n p (.plan f ops (C.pl f id)) (kW (ZL C p ops (C.pl f id) y) y) c).map fun r=>keepR lv (ML (fun lf=>{ lf with e:=.norm }) r) else (abe C p ops (flat (C.pl f id)) y c).map fun r=>keepR lv r
   | .seq a b=>match cmp C n p (.code f a lc.a { lv with n:=lc.l }) y c with
    | some r=>kF r fun lf c=>match lf.e with
     | .norm=>cmp C n p (.code f b lc.b lv) lf.s c
     | e=>some (one e .dead lf.s c)
    | none=>none
   | .cond cd a b=>match y.get cd with
    | some (.e .bool (.bool true))=>cmp C n p (.code f a lc.a lv) y c
    | some (.e .bool (.bool false))=>cmp C n p (.code f b lc.b lv) y c
    | some (.e .bool x)=>match cmp C n p (.code f a lc.a lv) y c with
     | some r1=>match cmp C n p (.code f b lc.b lv) y r1.c with
      | some r2=>fA y.g false <| keepR lv ⟨.ite x (iF 0 r1.L.length r1.t) (iF r1.L.length r2.L.length r2.t),r1.L++r2.L,r2.c,r1.log++r2.log⟩
      | none=>none
     | none=>none
    | _=>none
   | .block id b=>match cmp C n p (.code f b lc.a { lv with ex:=(id,lv.n)::lv.ex }) y c with
    | some r=>fA y.g false <| keepR lv (ML (fun lf=>match lf.e with | .exit i=>if i=id then { lf with e:=.norm } else lf | _=>lf) r)
    | none=>none
   | .loop b=>match Qn y.g (C.hl c) (AV lc.l (uN (NH (C.hl c)) (hCv (C.hl c)) y)) with
    | (yL,ps,init)=>if Io y.g.length init (uN (NH (C.hl c)) (hCv (C.hl c)) y) yL=true∧yL.g=y.g++ps then (match cmp C n p (.code f b lc.a { lv with n:=lc.l }) yL (c+1) with
     | some r=>XK y.g (C.hl c) yL ps init c (keepR { lv with n:=lc.l } r)
     | none=>none) else none
   | .rangeFunc g ps a b=>match y.get g with
    | some (.fn gf cap) =>
     let l:=[c,f]
     if XL y && !(ZJ y).contains (some l)&&(aj l y.lp).isNone && !y.jC l && !SV.jv l cap&&callable C.P gf then (match C.P.funcs[gf]? with
      | some fn=>match fn.body with
       | some cb=>if (SV.yld l::cap).length≤fn.ntmps∧fn.results = #[] then (match cmp C n [c] (.code gf cb (qW cb lv0).2 lv0) (y.dU l fn.ntmps (.yld l::cap) ⟨y.sv.length,ps,a,b,none⟩) (c+1) with
        | some r=>match RZ r with
         | some r=>match fA y.g false r with
          | some r=>(kF r fun lf c=>if lf.s.sv.length=y.sv.length+1∧MO lf.s.lp=(l,y.sv.length)::MO y.lp then (match lf.s.lp with
           | (_,q)::_=>match q.pending with
            | none=>some (one .norm .dead (lf.s.aX y.rd) c)
            | some (some (.exit i))=>some (one (.exit i) .dead (lf.s.aX y.rd) c)
            | some (some .ret)=>some (one .ret .dead (lf.s.aX y.rd) c)
            | _=>none
           | []=>none) else none)
          | none=>none
         | none=>none
        | none=>none) else none
       | none=>none
      | none=>none) else none
    | _=>none
   | _=>none
  | .ops f all l=>match l with
   | []=>some (one .norm .dead y c)
   | o::rest=>match FD C.P C.tbo p all y o with
    | some (bs,y1)=>(cmp C n p (.ops f all rest) y1 c).map fun r=>{ r with t:=binds bs r.t }
    | none=>if zL y.n o.dst=true then (match o.guard with
     | none=>vM C (cmp C n) p f all rest o y c
     | some (j,want)=>match (all[j]?).bind (·.dst) with
      | some t=>match lkS t y.ts with
       | .e .bool (.bool b)=>if b=want then vM C (cmp C n) p f all rest o y c else none
       | .e .bool x=>match vM C (cmp C n) p f all rest o (XR (if want then x else .p1 .not x) { y with ts:=OU t (.e .bool (.bool want)) y.ts }) c with
        | some r1=>match cmp C n p (.ops f all rest) ((XU (if want then x else .p1 .not x) { y with ts:=OU t (.e .bool (.bool !want)) y.ts }).put o.dst (.tup [])) r1.c with
         | some r2=>some ⟨if want then .ite x (iF 0 r1.L.length r1.t) (iF r1.L.length r2.L.length r2.t) else .ite x (iF r1.L.length r2.L.length r2.t) (iF 0 r1.L.length r1.t),r1.L++r2.L,r2.c,r1.log++r2.log⟩
         | none=>none
        | none=>none
       | _=>none
      | none=>none) else none
  | .plan f all l=>match l with
   | []=>some (one .norm .dead y c)
   | .calm g::rest=>match J4 C p all g y with
    | some (bs,y1)=>(cmp C n p (.plan f all rest) y1 c).map fun r=>{ r with t:=binds bs r.t }
    | none=>none
   | .bar i::rest=>match all[i]? with
    | some o=>match cmp C n p (.ops f all [o]) y c with
     | some r=>kF r fun lf c=>cmp C n p (.plan f all rest) lf.s c
     | none=>none
    | none=>none
   | .beside l1 l2 js::rest=>match (if ZK all l2 y=true then (match J4 C p all l1 y with
     | some (bs,y1)=>match cmp C n p (.ops f all (js.filterMap fun j=>all[j]?)) y1 c with
      | some r0=>match J4 C p all l2 (MN (abK y1 r0.L) y1) with
       | some (bs2,y2)=>(cmp C n p (.bes f all l2 (MN (abK y1 r0.L) y1) y2 js rest) { y1 with g:=y2.g } c).map fun r=>{ r with t:=binds (bs++bs2) r.t }
       | none=>none
      | none=>none
     | none=>none) else none) with
    | some r=>some r
    | none=>match J4 C p all (l1++l2) y with
     | some (bs,y1)=>match cmp C n p (.ops f all (js.filterMap fun j=>all[j]?)) y1 c with
      | some r0=>(kF r0 fun lf c=>cmp C n p (.plan f all rest) lf.s c).map fun r=>{ r with t:=.fail }
      | none=>none
     | none=>none
  | .bes f all l2 hb y2 js rest=>match js with
   | []=>cmp C n p (.plan f all rest) (yF all y (l2.map fun q=>(q,VP (aS all q) y2))) c
   | j::js=>match all[j]? with
    | some oj=>if ZK all l2 y=true then (match cmp C n p (.ops f all [oj]) y c with
     | some r=>kF r fun lf c=>if aaS all hb l2 oj.dst y y2 lf.s=true then cmp C n p (.bes f all l2 hb y2 js rest) lf.s c else none
     | none=>none) else none
    | none=>none
  | .call g args=>match quick C p g args y with
   | some (bs,y1,z1)=>some ⟨binds bs (.hole 0),[⟨.norm,z1,y1⟩],c,[]⟩
   | none=>match Qe C g args y with
   | some (i,u,q)=>cmp C n p (.call g (SV.jk i u q args)) (y.soft i) c
   | none=>match C.P.funcs[g]? with
   | some fn=>match fn.body with
    | some cb=>if args.length≤fn.ntmps then (match cmp C n [c] (.code g cb (qW cb (lvF fn.results.toList)).2 (lvF fn.results.toList)) (y.push fn.ntmps args) (c+1) with
     | some r=>match RZ r with
      | some r=>match fA y.g false r with
       | some r=>kF r fun lf c=>if lf.s.sv.length=y.sv.length+1∧MO lf.s.lp=MO y.lp then (match resV C.P lf.s fn.results.toList with
        | some vs=>some (one .norm (Qo vs) lf.s.pop c)
        | none=>none) else none
       | none=>none
      | none=>none
     | none=>none) else none
    | none=>none
   | none=>none
  | .yld l args=>match aj l y.lp with
   | some q=>match (yD y).reverse[q.depth]? with
    | some f=>if q.ps.toList.all (fun t=>decide (t<f.n))=true∧args.length=q.ps.size then (match cmp C n [c] (.code (J3 l) q.assign (qW q.assign ⟨lY q.body [],[],[]⟩).2 ⟨lY q.body [],[],[]⟩) (y.round l f q.ps.toList args) (c+1) with
     | some r1=>kF r1 fun lf c=>match lf.e with
      | .norm=>match aj l lf.s.lp with
       | some q1=>if q1.pending.isNone then (match cmp C n [c] (.code (J3 l) q.body (qW q.body lv0).2 lv0) (lf.s.aT l { q1 with pending:=some none }) (c+1) with
        | some r2=>match fA lf.s.g false r2 with
         | some r2=>kF r2 fun lf c=>if lf.s.sv.length=y.sv.length+1∧MO lf.s.lp=MO y.lp then (match aj l lf.s.lp with
          | some q2=>some (one .norm (.e .bool (.bool (Qp lf.e))) (lf.s.aT l { q2 with pending:=jmp lf.e }).pop c)
          | none=>none) else none
         | none=>none
        | none=>none) else none
       | none=>none
      | _=>none
     | none=>none) else none
    | none=>none
   | none=>none
def XV (P:Program) (ts:List TypeId):List SV→Option (List (Ty×E))
 | []=>match ts with | []=>some [] | _=>none
 | z::zs=>match ts with
  | t::ts=>match asE (tyD P t) z,XV P ts zs with
   | some r,some rs=>match r.1.ag with
    | some _=>some (r::rs)
    | none=>none
   | _,_=>none
  | []=>none
def GL:List (Ty×E)→Ty×E
 | []=>(.unit,.zero .unit)
 | [r]=>r
 | r::rs=>match GL rs with | (t,x)=>(.prod r.1 t,.p2 .pair r.2 x)
def Qs:Nat→List Ty→List SV
 | _,[]=>[]
 | i,t::ts=>.e t (.var i)::Qs (i+1) ts
def Qu (as:List Ty) (nt:Nat):Sy:={ g:=as,rd:=none,n:=nt,ts:=RY 0 (Qs 0 as),sv:=[],bx:=[],lp:=[],ow:=[],vc:=[] }
def VQ (lf:Leaf):Leaf:={ lf with s:=PW (lf.s.vc.map (·.1)) lf.s }
def outT (P:Program) (rs:List ResultVar) (rt:List TypeId) (rty:Ty):List Leaf→Option (List T)
 | []=>some []
 | lf::L=>match resV P lf.s rs with
  | some vs=>match XV P rt vs with
   | some es=>match GL es with
    | (t,x)=>if t=rty then (outT P rs rt rty L).map fun ts=>.jump 0 [x]::ts else none
   | none=>none
  | none=>none
def XW (C:Cx) (fuel:Nat) (g:FuncId) (as:List Ty) (rty:Ty):Option (T×Log) :=
 match C.P.funcs[g]? with
 | some fn=>match fn.body with
  | some cb=>if as.length≤fn.ntmps∧as.all Ty.LW=true then (match cmp C fuel [0] (.code g cb (qW cb (lvF fn.results.toList)).2 (lvF fn.results.toList)) (Qu as fn.ntmps) 1 with
   | some r=>match RZ r with
    | some r=>match outT C.P fn.results.toList fn.resultTypes.toList rty (r.L.map VQ) with
     | some ts=>some ((r.t.lift 0).sub (fun i=>ts.getD i .fail),r.log)
     | none=>none
    | none=>none
   | none=>none) else none
  | none=>none
 | none=>none
def ZM (w:Ty) (as:List Ty):Sy:={ g:=.sl w::as,rd:=none,n:=1,ts:=[(0,.vsl nm0)],sv:=[],bx:=[],lp:=[],ow:=[nm0],vc:=[(nm0,(w,.var 0))] }
def J5 (y:Sy):Bool:=match y.sv with
 | [f]=>(match lkS 0 f.ts with | .vsl n=>decide (n=nm0) | _=>false)&&decide (MO y.lp=[])
 | _=>false
def Dn (P:Program) (rs:List ResultVar) (rt:List TypeId) (w rty:Ty):List Leaf→Option (List T)
 | []=>some []
 | lf::L=>match resV P lf.s rs,aj nm0 lf.s.vc with
  | some vs,some (u,q)=>match XV P rt vs with
   | some es=>if (GL es).1=rty∧u=w∧J5 lf.s=true then (Dn P rs rt w rty L).map fun ts=>.jump 0 [.p2 .pair q (GL es).2]::ts else none
   | none=>none
  | _,_=>none
def ZN (C:Cx) (fuel:Nat) (g:FuncId) (w:Ty) (as:List Ty) (rty:Ty):Option (T×Log) :=
 match C.P.funcs[g]? with
 | some fn=>match fn.body with
  | some cb=>if as.length+1≤fn.ntmps∧w.LW=true∧as.all Ty.LW=true then (match cmp C fuel [0] (.code g cb (qW cb (lvF fn.results.toList)).2 (lvF fn.results.toList)) ((ZM w as).push fn.ntmps (.vsl nm0::Qs 1 as)) 1 with
   | some r=>match RZ r with
    | some r=>match Dn C.P fn.results.toList fn.resultTypes.toList w rty r.L with
     | some ts=>some ((r.t.lift 0).sub (fun i=>ts.getD i .fail),r.log)
     | none=>none
    | none=>none
   | none=>none) else none
  | none=>none
 | none=>none
end Go.Tx
namespace Go.Tx
open Go Go.Ab
section
variable {P:Program} {S:tV} {CS:Calls'} {env:List Val} {y:Sy} {s:Sa} {p:Name}
theorem aG.RY:∀ {xs:List SV} {vs:List V} (i:Nat),aB env xs vs→aG env (Tx.RY i xs) (xk i vs)
 | [],vs,i,h=>by simp only [aB] at h;subst h;rfl
 | x::xs,vs,i,h=>by
  simp only [aB] at h
  obtain ⟨v,vs',rfl,h2,h3⟩:=h
  exact ⟨v,_,rfl,h2,aG.RY (i+1) h3⟩
theorem Inst.push (h:Inst env y s) (n:Nat) {args:List SV} {vs:List V} (ha:aB env args vs):Inst env (y.push n args) (s.push n (xk 0 vs)) :=
 ⟨h.g,rfl,rfl,aG.RY 0 ha,⟨_,_,rfl,h.rd,h.n,h.ts,h.sv⟩,h.bx,h.lp,h.ow,h.vc⟩
theorem Inst.pop (h:Inst env y s):Inst env y.pop s.pop:=by
 unfold Sy.pop Sa.pop
 have:=h.sv
 cases hy:y.sv with
 | nil=>rw [hy] at this;simp only [eY] at this;rw [this];exact h
 | cons f fs =>
  rw [hy] at this
  simp only [eY] at this
  obtain ⟨g,l',e,e1,e2,e3,e4⟩:=this
  rw [e]
  exact ⟨h.g,e1,e2,e3,e4,h.bx,h.lp,h.ow,h.vc⟩
theorem Inst.dU (h:Inst env y s) (l:Name) (n:Nat) {args:List SV} {vs:List V} (ha:aB env args vs) (q:Lp):Inst env (y.dU l n args q) (s.dU l n vs q) :=
 ⟨h.g,rfl,rfl,aG.RY 0 ha,⟨_,_,rfl,rfl,h.n,h.ts,h.sv⟩,h.bx,by simp only [Sa.dU,Sy.dU,h.lp],h.ow,h.vc⟩
theorem Inst.dQ (h:Inst env y s):Inst env y.dQ s.dQ:=by
 unfold Sy.dQ Sa.dQ
 have:=h.sv
 cases hy:y.sv with
 | nil=>rw [hy] at this;simp only [eY] at this;rw [this];exact h
 | cons f fs =>
  rw [hy] at this
  simp only [eY] at this
  obtain ⟨g,l',e,e1,e2,e3,e4⟩:=this
  rw [e]
  exact ⟨h.g,rfl,e2,e3,e4,h.bx,by simp only [h.lp],h.ow,h.vc⟩
theorem Inst.aX (h:Inst env y s) (r:Option Name):Inst env (y.aX r) (s.aX r):=by
 unfold Sy.aX Sa.aX
 have:=h.sv
 cases hy:y.sv with
 | nil=>rw [hy] at this;simp only [eY] at this;rw [this];exact h
 | cons f fs =>
  rw [hy] at this
  simp only [eY] at this
  obtain ⟨g,l',e,e1,e2,e3,e4⟩:=this
  rw [e]
  exact ⟨h.g,rfl,e2,e3,e4,h.bx,by simp only [h.lp],h.ow,h.vc⟩
theorem Inst.aT (h:Inst env y s) (l:Name) (q:Lp):Inst env (y.aT l q) (Ab.aT s l q) :=
 ⟨h.g,h.rd,h.n,h.ts,h.sv,h.bx,by simp only [Ab.aT,Sy.aT,h.lp],h.ow,h.vc⟩
theorem aG.qI:∀ (ps:List Nat) {xs:List SV} {vs:List V} {l:List (Nat×SV)} {us:List (Nat×V)},aB env xs vs→aG env l us→aG env (Iw ps xs l) (Ab.qI ps vs us)
 | [],xs,vs,l,us,h,hk=>by cases xs <;> cases vs <;> exact hk
 | t::ps,[],vs,l,us,h,hk=>by simp only [aB] at h;subst h;exact hk
 | t::ps,x::xs,vs,l,us,h,hk=>by
  simp only [aB] at h
  obtain ⟨v,vs',rfl,h2,h3⟩:=h
  exact aG.qI ps h3 (hk.set h2)
theorem eY.get:∀ {xs:List SFr} {vs:List Fr},eY env xs vs→∀ {i:Nat} {f:SFr},xs[i]? = some f→∃ g,vs[i]? = some g∧g.rd=f.rd∧g.n=f.n∧aG env f.ts g.ts
 | [],vs,h,i,f,hf=>by simp at hf
 | x::xs,vs,h,i,f,hf=>by
  simp only [eY] at h
  obtain ⟨g,l',rfl,h1,h2,h3,h4⟩:=h
  cases i with
  | zero=>simp at hf;subst hf;exact ⟨g,by simp,h1,h2,h3⟩
  | succ i=>simpa using h4.get (by simpa using hf)
theorem Inst.frames (h:Inst env y s):eY env (yD y) (Ab.frames s):=⟨_,_,rfl,h.rd,h.n,h.ts,h.sv⟩
theorem Inst.frame (h:Inst env y s) {d:Nat} {f:SFr} (hf:(yD y).reverse[d]? = some f):∃ g,(Ab.frames s).reverse[d]? = some g∧g.n=f.n∧aG env f.ts g.ts:=by
 have hl:=h.frames.len
 obtain ⟨hd,e⟩:=List.getElem?_eq_some_iff.1 hf
 rw [List.getElem_reverse] at e
 simp only [List.length_reverse] at hd
 obtain ⟨g,g1,_,g2,g3⟩:=h.frames.get (i:=(yD y).length - 1 - d) (f:=f) (List.getElem?_eq_some_iff.2 ⟨by omega,e⟩)
 refine ⟨g,?_,g2,g3⟩
 rw [List.getElem?_reverse (by omega),hl];exact g1
theorem Inst.round (h:Inst env y s) (l:Name) {f:SFr} {g:Fr} (hn:g.n=f.n) (hk:aG env f.ts g.ts) (ps:List Nat) {args:List SV} {vs:List V} (ha:aB env args vs):Inst env (y.round l f ps args) (s.round l g ps vs) :=
 ⟨h.g,rfl,hn,aG.qI ps ha hk,⟨_,_,rfl,h.rd,h.n,h.ts,h.sv⟩,h.bx,h.lp,h.ow,h.vc⟩
theorem yG:∀ {rs:List ResultVar} {vs:List SV} {K:List V→Prop},resV P y rs=some vs→Inst env y s→(∀ us,aB env vs us→K us)→G7 P s rs K
 | [],vs,K,h,hI,hK=>by cases h;exact hK [] rfl
 | .tmp t::rs,vs,K,h,hI,hK=>by
  obtain ⟨vs',h1,rfl⟩:=Option.map_eq_some_iff.1 h
  exact yG (K:=fun us=>K (lkT t s.ts::us)) h1 hI fun us hu=>hK _ ⟨_,_,rfl,hI.ts.lk,hu⟩
 | .cell a t::rs,vs,K,h,hI,hK=>by
  simp only [resV] at h
  simp only [G7]
  split at h
  ·rename_i ag hag
   simp only [hag]
   split at h
   ·rename_i hc
    refine ⟨fun e=>by rcases hc with hc | hc <;> first | exact hc | (rw [e] at hc;cases hc),?_⟩
    split at h
    ·rename_i nm off ha
     have hl:=hI.ts.lk (t:=a)
     rw [ha] at hl
     simp only [ah] at hl
     simp only [hl]
     split at h
     ·rename_i c hc
      obtain ⟨b,e1,e2⟩:=(hI.bx.look (n:=nm)).1 hc
      simp only [e1]
      split at h
      ·rename_i z hz
       obtain ⟨vs',h1,rfl⟩:=Option.map_eq_some_iff.1 h
       obtain ⟨k1,k2⟩:=CQ hz e2
       exact ⟨k2,yG (K:=fun us=>K (bF ag off (tsz P t) b::us)) h1 hI fun us hu=>hK _ ⟨_,_,rfl,k1,hu⟩⟩
      ·cases h
     ·cases h
    ·cases h
   ·cases h
  ·cases h
theorem Qv {xs:List SV} {us:List V} (h:aB env xs us):ah env (Qo xs) (iU us):=by
 match xs,us,h with
 | [],us,h=>simp only [aB] at h;subst h;exact ⟨[],rfl,rfl⟩
 | [x],us,h =>
  simp only [aB] at h
  obtain ⟨v,vs',rfl,h2,rfl⟩:=h
  exact h2
 | x::x' :: xs,us,h =>
  have h':=h
  simp only [aB] at h
  obtain ⟨v,vs',rfl,h2,v2,vs2,rfl,h3,h4⟩:=h
  exact ⟨_,rfl,h'⟩
theorem aG.filter {q:Nat→Bool}:∀ {l:List (Nat×SV)} {us:List (Nat×V)},aG env l us→aG env (l.filter fun x=>q x.1) (us.filter fun x=>q x.1)
 | [],us,h=>by simp only [aG] at h;subst h;rfl
 | (k,x)::l,us,h=>by
  simp only [aG] at h
  obtain ⟨v,us',rfl,h2,h3⟩:=h
  simp only [List.filter_cons]
  split
  ·exact ⟨_,_,rfl,h2,h3.filter⟩
  ·exact h3.filter
theorem uO {q:Nat→Bool} (t:Nat):∀ (us:List (Nat×V)),lkT t (us.filter fun x=>q x.1)=lkT t us∨lkT t (us.filter fun x=>q x.1) = .dead
 | []=>.inl rfl
 | (k,x)::us=>by
  simp only [List.filter_cons]
  split
  ·simp only [lkT]
   split
   ·exact .inl rfl
   ·exact uO t us
  ·rename_i hq
   simp only [lkT]
   split
   ·rename_i e;subst e
    right
    have:∀ (l:List (Nat×V)),lkT k (l.filter fun x=>q x.1) = .dead:=by
     intro l
     induction l with
     | nil=>rfl
     | cons z l ih =>
      obtain ⟨a,b⟩:=z
      simp only [List.filter_cons]
      split
      ·rename_i ha
       simp only [lkT]
       split
       ·rename_i e;subst e;exact absurd ha hq
       ·exact ih
      ·exact ih
    exact this us
   ·exact uO t us
theorem Qw (kp:List Nat) (h:Inst env y s):∃ s',Wk s s' ∧ Inst env (AV kp y) s' :=
 ⟨{ s with ts:=s.ts.filter fun x=>Y7 x.1 kp },Wk.of rfl rfl rfl (fun t=>uO (q:=fun t=>Y7 t kp) t s.ts) rfl (fun _ _ h=>h) (fun _ h=>h) (fun _ _ h=>⟨h,id⟩),h.g,h.rd,h.n,h.ts.filter (q:=fun t=>Y7 t kp),h.sv,h.bx.ZC,h.lp,h.ow,h.vc⟩
theorem qj {lv:Lv} {r:Res} {R:Ex→Sa→Prop} (h:(keepR lv r).t.sat CS noJ (LQ (keepR lv r).L fun lf e=>∀ s',Inst e lf.s s' → R lf.e s') env) :
  r.t.sat CS noJ (LQ r.L fun lf e=>∀ s',Inst e lf.s s' → ∃ s'',Wk s' s'' ∧ R lf.e s'') env:=by
 refine T.aW (fun _ _ h=>h) ?_ h
 rintro i e ⟨lf,h1,h2⟩
 simp only [keepR,List.getElem?_map] at h1
 obtain ⟨lf0,h3,h4⟩:=Option.map_eq_some_iff.1 h1
 subst h4
 refine ⟨lf0,h3,fun s' hs=>?_⟩
 obtain ⟨s2,w2,i2⟩:=Qw (abH lv lf0.e) hs
 exact ⟨s2,w2,h2 s2 i2⟩
theorem FT:∀ {bs:Bs} {t:T} {J:Jt} {Q:Nat→List Val→Prop} {env:List Val},(binds bs t).sat CS J Q env=iP CS bs env (fun e=>t.sat CS J Q e)
 | [],t,J,Q,env=>rfl
 | b::bs,t,J,Q,env=>by
  simp only [binds,T.sat,iP]
  congr 1;funext v
  rw [FT]
theorem yH {k n:Nat} {t:T} {J:Jt} {Q:Nat→List Val→Prop} {env:List Val} (h:(iF k n t).sat CS J Q env):t.sat CS J (fun i e=>i<n∧Q (i+k) e) env:=by
 rw [iF,T.uG] at h
 refine T.aW (fun _ _ h=>h) ?_ h
 intro i e hq
 split at hq
 ·rename_i hi;exact ⟨hi,hq⟩
 ·exact hq.elim
theorem J6 {f:Leaf→Nat→Option Res}:∀ {L:List Leaf} {off c:Nat} {ts:List T} {Ls:List Leaf} {c2:Nat} {lg:Log},Ur f L off c=some (ts,Ls,c2,lg) →
  (∀ (i:Nat) (lf:Leaf),L[i]? = some lf→∃ (c1:Nat) (r1:Res) (t1:T),f lf c1=some r1∧ts[i]? = some t1∧∀ {J:Jt} {Q:Leaf→List Val→Prop} {env:List Val},t1.sat CS J (fun h e=>off≤h→LQ Ls Q (h - off) e) env→r1.t.sat CS J (LQ r1.L Q) env) ∧
  (∀ lf' ∈ Ls,∃ lf∈L,∃ (c1:Nat) (r1:Res),f lf c1=some r1∧lf' ∈ r1.L)∧ts.length=L.length
 | [],off,c,ts,Ls,c2,lg,h=>by cases h;exact ⟨fun i lf h=>by simp at h,fun lf h=>by simp at h,rfl⟩
 | lf::L,off,c,ts,Ls,c2,lg,h=>by
  simp only [Ur] at h
  split at h
  ·rename_i r hr
   split at h
   ·rename_i ts' Ls' c2' lg' hc
    cases h
    obtain ⟨k1,k2,k3⟩:=J6 hc
    refine ⟨fun i lf' hl=>?_,fun lf' hm=>?_,by simp [k3]⟩
    ·cases i with
     | zero =>
      simp at hl;subst hl
      refine ⟨c,r,_,hr,List.getElem?_cons_zero,fun {J Q env} hs=>?_⟩
      split at hs
      ·rename_i e
       obtain ⟨e1,e2⟩:=e
       have hL:L=[]:=by cases L <;> simp_all
       subst hL;subst e1
       cases hc
       refine T.aW (fun _ _ h=>h) ?_ hs
       intro j e hq
       have:=hq (Nat.zero_le _)
       rw [List.append_nil] at this
       exact this
      ·refine T.aW (fun _ _ h=>h) ?_ (yH hs)
       rintro j e ⟨hj,hq⟩
       obtain ⟨lf2,h2,h3⟩:=hq (by omega)
       rw [Nat.add_sub_cancel,List.getElem?_append_left hj] at h2
       exact ⟨lf2,h2,h3⟩
     | succ i =>
      obtain ⟨c1,r1,t1,e1,e2,e3⟩:=k1 i lf' (by simpa using hl)
      refine ⟨c1,r1,t1,e1,by simpa using e2,fun hs=>e3 (T.aW (fun _ _ h=>h) ?_ hs)⟩
      intro j e hq hle
      obtain ⟨lf2,h2,h3⟩:=hq (by omega)
      rw [List.getElem?_append_right (by omega)] at h2
      exact ⟨lf2,by rw [← h2];congr 1;omega,h3⟩
    ·rcases List.mem_append.1 hm with hm | hm
     ·exact ⟨lf,List.mem_cons_self,c,r,hr,hm⟩
     ·obtain ⟨lf2,h1,c1,r1,h2,h3⟩:=k2 lf' hm
      exact ⟨lf2,List.mem_cons_of_mem _ h1,c1,r1,h2,h3⟩
   ·cases h
  ·cases h
theorem J7 {r r' : Res} {f:Leaf→Nat→Option Res} (h:kF r f=some r') :
  (∀ {J:Jt} {Q:Leaf→List Val→Prop} {env:List Val},r'.t.sat CS J (LQ r'.L Q) env→r.t.sat CS J (LQ r.L fun lf e=>∃ (c1:Nat) (r1:Res),f lf c1=some r1∧r1.t.sat CS J (LQ r1.L Q) e) env) ∧
  ∀ lf' ∈ r'.L,∃ lf∈r.L,∃ (c1:Nat) (r1:Res),f lf c1=some r1∧lf' ∈ r1.L:=by
 unfold kF at h
 split at h
 ·rename_i ts Ls c lg hc
  cases h
  obtain ⟨k1,k2,k3⟩:=J6 (CS:=CS) hc
  refine ⟨fun {J Q env} hs=>?_,k2⟩
  rw [T.uG] at hs
  refine T.aW (fun _ _ h=>h) ?_ hs
  intro i e hq
  cases hts:ts[i]? with
  | none=>simp [List.getD_eq_getElem?_getD,hts,T.sat] at hq
  | some tt =>
   simp only [List.getD_eq_getElem?_getD,hts,Option.getD_some] at hq
   have hi:i<r.L.length:=by rw [← k3];exact (List.getElem?_eq_some_iff.1 hts).1
   refine ⟨r.L[i],List.getElem?_eq_getElem hi,?_⟩
   obtain ⟨c1,r1,t1,e1,e2,e3⟩:=k1 i _ (List.getElem?_eq_getElem hi)
   rw [hts] at e2;cases e2
   exact ⟨c1,r1,e1,e3 (T.aW (fun _ _ h=>h) (fun _ _ h _=>h) hq)⟩
 ·cases h
end
end Go.Tx
namespace Go.Tx
open Go Go.Ab
section
variable {P:Program} {S:tV} {CS:Calls'} {env:List Val} {y:Sy} {s:Sa} {p:Name}
theorem dG {d:Option Tmp} {z:SV}:(y.put d z).lp=y.lp:=by cases d <;> rfl
theorem sV {i:Name} {sz:Option Nat} {et:Option Ty} {x z:SV} {y' : Sy} (h:y.claim i sz et x=some (z,y')):y'.lp=y.lp:=by
 cases x <;> simp only [Sy.claim,reduceCtorEq] at h
 case nil =>
  split at h
  ·split at h
   ·split at h
    ·cases h;rfl
    ·cases h
   ·cases h
  ·cases h;rfl
 all_goals (cases h;rfl)
theorem Qx {d:Nat} {dst:Option Tmp} {sz:Option Nat} {et:Option Ty} {z:SV} {bs:Bs} {y' : Sy} (h:newS y d p dst sz et z=some (bs,y')):y'.lp=y.lp:=by
 unfold newS at h
 split at h
 ·rename_i z' y1 hc
  split at h
  ·cases h;rw [dG];show y1.lp=_;exact sV hc
  ·cases h
 ·cases h
theorem Qy {dst:Option Tmp} {t:TypeId} {n:Name} {off:Nat} {v:SV} {bs:Bs} {y' : Sy} (h:Fq P y dst t n off v=some (bs,y')):y'.lp=y.lp:=by
 unfold Fq at h
 split at h
 ·split at h
  ·rename_i v' y1 hc
   split at h
   ·split at h
    ·split at h
     ·cases h;rw [dG];show y1.lp=_;exact sV hc
     ·cases h
    ·cases h
   ·cases h
  ·cases h
 ·cases h
theorem Qz {dst:Option Tmp} {t:TypeId} {n:Name} {off m:Nat} {u:Ty} {i:E} {inn:Nat} {v:SV} {bs:Bs} {y' : Sy} (h:Fv P y dst t n off m u i inn v=some (bs,y')):y'.lp=y.lp:=by
 unfold Fv at h
 split at h
 ·rename_i w e
  split at h
  ·rename_i b x hb
   split at h
   ·rename_i z hz
    simp only at h
    split at h
    ·split at h
     ·split at h
      ·cases h;rw [dG];rfl
      ·split at h
       ·cases h;rw [dG];rfl
       ·cases h
     ·split at h
      ·split at h
       ·cases hq:(if off=0∧b = .arr m u then some (b,E.var (y.g.length+1)) else (ty2 (.upd off) b (.arr m u)).map fun b'=>(b',E.p2 (.upd off) x (.var (y.g.length+1)))) with
        | none=>rw [hq] at h;cases h
        | some q=>rw [hq] at h;cases h;rw [dG];rfl
       ·cases h
      ·cases h
    ·cases h
   ·cases h
  ·cases h
 ·cases h
theorem MP {dst:Option Tmp} {t u:TypeId} {a b:SV} {bs:Bs} {y' : Sy} (h:yu P p y dst t u a b=some (bs,y')):y'.lp=y.lp:=by
 unfold yu at h
 repeat' (split at h)
 all_goals first
  | (cases h;done)
  | (cases h;rw [dG];rfl)
theorem XY {o:Oper} {bs:Bs} {y' : Sy} (h:stOp P p y o=some (bs,y')):y'.lp=y.lp:=by
 unfold stOp at h
 simp only at h
 split at h
 ·split at h
  ·split at h
   ·rename_i hc;cases h;rw [dG];exact sV hc
   ·cases h
  ·cases h
 ·split at h
  ·split at h
   ·exact Qx h
   ·cases h
  ·cases h
 ·split at h
  ·split at h
   ·exact Qx h
   ·cases h
  ·cases h
 ·split at h
  ·exact Qy h
  ·exact Qz h
  ·cases h
 ·split at h
  ·split at h
   ·split at h
    ·rename_i hc;cases h;rw [dG];exact sV hc
    ·cases h
   ·cases h
  ·cases h
 ·split at h
  ·split at h
   ·split at h
    ·cases h;rw [dG]
    ·cases h
   ·cases h
  ·cases h
 ·split at h
  ·split at h
   ·split at h
    ·cases h;rw [dG]
    ·cases h
   ·cases h
  ·cases h
 ·split at h
  ·split at h
   ·split at h
    ·exact MP h
    ·cases h
   ·cases h
  ·cases h
 ·cases h
theorem Ux {o:Oper} {bs:Bs} {y' : Sy} (h:PU P p y o=some (bs,y')):y'.lp=y.lp:=by
 unfold PU at h
 simp only at h
 split at h
 ·cases h;rw [dG];rfl
 split at h
 ·split at h
  ·split at h
   ·split at h
    ·split at h
     ·cases h;rw [dG];rfl
     ·split at h
      ·cases h;rw [dG];rfl
      ·cases h
    ·cases h
   ·cases h
  ·cases h
 ·split at h
  ·split at h
   ·split at h
    ·split at h
     ·split at h
      ·cases h;rw [dG]
      ·cases h
     ·cases h
    ·cases h
   ·cases h
  ·split at h
   ·split at h
    ·split at h
     ·split at h
      ·cases h;rw [dG];rfl
      ·cases h
     ·cases h
    ·cases h
   ·cases h
  ·cases h
 ·cases h
theorem VR {tb:Tab} {o:Oper} {bs:Bs} {y' : Sy} (h:opS P tb p y o=some (bs,y')):y'.lp=y.lp:=by
 unfold opS at h
 split at h
 ·cases h;rw [dG];rfl
 ·split at h
  ·rename_i r hst
   cases h
   exact XY hst
  ·exact Ux h
theorem VT {tb:Tab} {o:Oper} {gs:List E} {bs:Bs} {y' : Sy} (h:opG P tb y o gs=some (bs,y')):y'.lp=y.lp:=by
 unfold opG at h
 repeat' (split at h)
 all_goals first | (cases h;done) | (cases h;rw [dG];rfl)
theorem Dp {tb:Tab} {ops:Array Oper} {o:Oper} {bs:Bs} {y' : Sy} (h:FD P tb p ops y o=some (bs,y')):y'.lp=y.lp:=by
 unfold FD at h
 split at h
 ·split at h
  ·exact VR h
  ·split at h
   ·split at h
    ·split at h
     ·exact VR h
     ·cases h;rw [dG]
    ·exact VT h
    ·exact VT h
    ·cases h;rw [dG]
    ·cases h
   ·cases h
 ·cases h
theorem QA:y.pop.lp=y.lp:=by unfold Sy.pop;split <;> rfl
theorem FU {r:Option Name} {x:Name×Lp} {l:List (Name×Lp)} (h:y.lp=x::l) (hs:y.sv≠[]):(y.aX r).lp=l:=by
 unfold Sy.aX
 split
 ·simp [h]
 ·contradiction
theorem Dq {nm:Name} {q q' : Lp} (h:q'.depth=q.depth∧q'.ps=q.ps∧q'.assign=q.assign∧q'.body=q.body):∀ {l:List (Name×Lp)},aj nm l=some q→lpS (Ab.cO nm q' l)=lpS l
 | [],_=>rfl
 | (n1,q1)::l,hl=>by
  simp only [aj] at hl
  simp only [Ab.cO]
  split at hl
  ·rename_i e;cases hl;rw [if_pos e];simp only [lpS,List.map_cons,e,h]
  ·rename_i e;rw [if_neg e]
   simp only [lpS,List.map_cons]
   have:=Dq h hl
   simp only [lpS] at this
   rw [this]
theorem Uy {l l' : List (Name×Lp)} (h:lpS l=lpS l') {nm:Name} {q:Lp} (hq:aj nm l=some q):∃ q',aj nm l' = some q' ∧ q'.depth=q.depth∧q'.ps=q.ps∧q'.assign=q.assign∧q'.body=q.body:=by
 induction l generalizing l' with
 | nil=>cases hq
 | cons x l ih =>
  cases l' with
  | nil=>simp [lpS] at h
  | cons y l' =>
   obtain ⟨x1,x2⟩:=x
   obtain ⟨y1,y2⟩:=y
   simp only [lpS,List.map_cons,List.cons.injEq,Prod.mk.injEq] at h
   obtain ⟨⟨rfl,h2,h3,h4,h5⟩,h6⟩:=h
   simp only [aj] at hq ⊢
   split at hq
   ·rename_i e;rw [if_pos e];cases hq;exact ⟨y2,rfl,h2.symm,h3.symm,h4.symm,h5.symm⟩
   ·rename_i e;rw [if_neg e];exact ih h6 hq
theorem J8 {g0:List Ty} {ys:List Sy} {j:Join} (h:XH g0 ys=some j):∃ y∈ys,j.y.lp=y.lp:=by
 unfold XH at h
 split at h
 ·cases h
 ·rename_i y rest
  simp only at h
  split at h
  ·cases h
  ·rename_i z zs hz
   cases h
   refine ⟨y,List.mem_cons_self,?_⟩
   rw [List.map_cons,List.map_cons] at hz
   simp only [List.cons.injEq] at hz
   rw [← hz.1]
   exact qV
abbrev WkQ (R:Ex→Sa→Prop):Ex→Sa→Prop:=fun e s=>∃ s',Wk s s' ∧ R e s'
theorem XZ {R:Ex→Sa→Prop} {e:Ex} {s:Sa} (h:WkQ (WkQ R) e s):WkQ R e s:=by
 obtain ⟨s1,w1,s2,w2,h⟩:=h
 exact ⟨s2,jG w1 w2,h⟩
abbrev iL (R:Ex→Sa→Prop):Leaf→List Val→Prop:=fun lf e=>∀ s',Inst e lf.s s' → R lf.e s'
theorem AX {R R' : Ex→Sa→Prop} (h:∀ e s,R e s→R' e s) {t:T} {L:List Leaf} {J:Jt} (hs:t.sat CS J (LQ L (iL R)) env):t.sat CS J (LQ L (iL R')) env :=
 T.aW (fun _ _ h=>h) (fun i e ⟨lf,h1,h2⟩=>⟨lf,h1,fun s' hs=>h _ _ (h2 s' hs)⟩) hs
theorem AY {R:Ex→Sa→Prop} {t:T} {L:List Leaf} {J:Jt} (hs:t.sat CS J (LQ L (iL R)) env):t.sat CS J (LQ L (iL (WkQ R))) env :=
 AX (fun e s h=>⟨s,Wk.refl,h⟩) hs
theorem Iz {g0:List Ty} {force:Bool} {rep:Leaf} {r r' : Res} (h:kX g0 force rep r=some r') {base:List (Name×Lp)} (hlp:∀ lf∈r.L,lpS lf.s.lp=lpS base):∀ lf∈r'.L,lpS lf.s.lp=lpS base:=by
 unfold kX at h
 simp only at h
 split at h
 ·cases h;exact hlp
 ·split at h
  ·rename_i j hj
   split at h
   ·split at h
    ·rename_i t L hgl
     cases h
     obtain ⟨y,hy,hyl⟩:=J8 hj
     obtain ⟨lf0,hlf0,rfl⟩:=List.mem_map.1 hy
     have h0:=hlp lf0 (List.mem_filter.1 hlf0).1
     have hjl:lpS j.y.lp=lpS base:=by rw [hyl];exact h0
     intro lf hlf
     unfold glue at hgl
     split at hgl
     ·rename_i ts os hsg
      cases hgl
      rcases List.mem_cons.1 hlf with rfl | hlf
      ·exact hjl
      ·exact hlp lf (oP hsg lf hlf)
     ·cases hgl
    ·cases h
   ·cases h
  ·cases h
theorem IB (hCS:oG CS) {g0:List Ty} {force:Bool} {rep:Leaf} {r r' : Res} (h:kX g0 force rep r=some r') (hg:env.map (·.1)=g0) (hw:bW env) {base:List (Name×Lp)} (hlp:∀ lf∈r.L,lpS lf.s.lp=lpS base) :
  (∀ lf∈r'.L,lpS lf.s.lp=lpS base)∧∀ {R:Ex→Sa→Prop},r'.t.sat CS noJ (LQ r'.L (iL R)) env→r.t.sat CS noJ (LQ r.L (iL (WkQ R))) env:=by
 unfold kX at h
 simp only at h
 split at h
 ·cases h;exact ⟨hlp,AY⟩
 ·split at h
  ·rename_i j hj
   split at h
   ·rename_i hgj
    split at h
    ·rename_i t L hgl
     cases h
     obtain ⟨y,hy,hyl⟩:=J8 hj
     obtain ⟨lf0,hlf0,rfl⟩:=List.mem_map.1 hy
     have h0:=hlp lf0 (List.mem_filter.1 hlf0).1
     have hjl:lpS j.y.lp=lpS base:=by rw [hyl];exact h0
     refine ⟨fun lf hlf=>?_,fun {R} hs=>XD (Q:=fun _ _=>True) hCS hgl (by rw [← hg,List.length_map]) hw (by rw [hgj,hg]) (fun lf hl=>by rw [hlp lf hl,hjl]) hs⟩
     unfold glue at hgl
     split at hgl
     ·rename_i ts os hsg
      cases hgl
      rcases List.mem_cons.1 hlf with rfl | hlf
      ·exact hjl
      ·exact hlp lf (oP hsg lf hlf)
     ·cases hgl
    ·cases h
   ·cases h
  ·cases h
def jW (g0:List Ty) (force:Bool) (acc:Option Res) (rep:Leaf):Option Res:=match acc with | some r=>kX g0 force rep r | none=>none
theorem lF {g0:List Ty} {force:Bool}:∀ (l:List Leaf),l.foldl (jW g0 force) none=none
 | []=>rfl
 | a::l=>lF l
theorem gW (hCS:oG CS) {g0:List Ty} {force:Bool} {r r' : Res} (h:fA g0 force r=some r') (hg:env.map (·.1)=g0) (hw:bW env) {base:List (Name×Lp)} (hlp:∀ lf∈r.L,lpS lf.s.lp=lpS base) :
  (∀ lf∈r'.L,lpS lf.s.lp=lpS base)∧∀ {R:Ex→Sa→Prop},r'.t.sat CS noJ (LQ r'.L (iL R)) env→r.t.sat CS noJ (LQ r.L (iL (WkQ R))) env:=by
 change (classes r.L []).foldl (jW g0 force) (some r)=some r' at h
 generalize classes r.L []=cl at h
 induction cl generalizing r with
 | nil=>cases h;exact ⟨hlp,AY⟩
 | cons rep cl ih =>
  rw [List.foldl_cons] at h
  cases h1:kX g0 force rep r with
  | none =>
   have e:jW g0 force (some r) rep=none:=h1
   rw [e,lF] at h;cases h
  | some r1 =>
   have e:jW g0 force (some r) rep=some r1:=h1
   rw [e] at h
   obtain ⟨k1,k2⟩:=IB hCS h1 hg hw hlp
   obtain ⟨g1,g2⟩:=ih k1 h
   exact ⟨g1,fun hs=>AX (fun e s h=>XZ h) (k2 (g2 hs))⟩
theorem gX {g0:List Ty} {force:Bool} {r r' : Res} (h:fA g0 force r=some r') {base:List (Name×Lp)} (hlp:∀ lf∈r.L,lpS lf.s.lp=lpS base):∀ lf∈r'.L,lpS lf.s.lp=lpS base:=by
 change (classes r.L []).foldl (jW g0 force) (some r)=some r' at h
 generalize classes r.L []=cl at h
 induction cl generalizing r with
 | nil=>cases h;exact hlp
 | cons rep cl ih =>
  rw [List.foldl_cons] at h
  cases h1:kX g0 force rep r with
  | none =>
   have e:jW g0 force (some r) rep=none:=h1
   rw [e,lF] at h;cases h
  | some r1 =>
   have e:jW g0 force (some r) rep=some r1:=h1
   rw [e] at h
   exact ih (Iz h1 hlp) h
theorem Uz (hCS:oG CS) {b:Code} {yL:Sy} {ps:List Ty} {init:List E} {r:Res} {as:List (List E)} {ts:List T} {os:List Leaf} {ids:List Name} {cv:Cv} (hg:env.map (·.1)=y.g) (hgL:yL.g=y.g++ps) (hw:bW env)
  (hbody:∀ env' s',Inst env' yL s' → bW env' → ∀ R,r.t.sat CS noJ (LQ r.L (iL R)) env' → TC P p b s' R) (hlp:∀ lf∈r.L,lpS lf.s.lp=lpS yL.lp)
  (hsg:sigma y.g.length ids cv yL ⟨.norm,.dead,yL⟩ r.L as 0=some (ts,os)) (hI:Inst env y s) (hnn:∀ lf∈os,vK lf.e=false) (hf:Io y.g.length init y yL=true) (hlpL:lpS y.lp=lpS yL.lp) {R:Ex→Sa→Prop}
  (hs:(T.loop ps init ((r.t.lift 0).sub fun i=>ts.getD i .fail)).sat CS noJ (LQ os (iL R)) env):TC P p (.loop b) s R:=by
 have hn:env.length=y.g.length:=by rw [← hg,List.length_map]
 simp only [T.sat] at hs
 obtain ⟨n,vs,hv,hrep⟩:=hs
 have hlen:ts.length=r.L.length:=by
  have:∀ {L:List Leaf} {as:List (List E)} {k:Nat} {ts:List T} {os:List Leaf},sigma y.g.length ids cv yL ⟨.norm,.dead,yL⟩ L as k=some (ts,os)→ts.length=L.length:=by
   intro L
   induction L with
   | nil=>intro as k ts os h;cases h;rfl
   | cons x L ih =>
    intro as k ts os h
    simp only [sigma] at h
    split at h
    ·split at h
     ·split at h
      ·obtain ⟨⟨ts',os'⟩,h1,h2⟩:=Option.map_eq_some_iff.1 h
       cases h2;simp [ih h1]
      ·cases h
     ·cases h
    ·obtain ⟨⟨ts',os'⟩,h1,h2⟩:=Option.map_eq_some_iff.1 h
     cases h2;simp [ih h1]
  exact this hsg
 have start:∃ s0,Wk s s0∧Inst (env++vs) yL s0:=by
  have hI' : Inst (env++[]) y s:=by rw [List.append_nil];exact hI
  have hv' : evs (env++[]) init=some vs:=by rw [List.append_nil];exact hv
  refine Df (by rw [hn];exact hf) hlpL hI' hv' ?_
  cases n with
  | zero=>exact hrep.elim
  | succ n=>rw [List.map_append,hrep.1,hg,hgL]
 obtain ⟨s0,w0,i0⟩:=start
 refine TC.weaken w0 ?_
 have hwv:=evs_wf hw hv
 refine Uo (fun (x:{ x:Nat×List Val×Sa // oD ps (fun again vs=>((r.t.lift 0).sub fun i=>ts.getD i .fail).sat CS (kE again noJ) (LQ os (iL R)) (env++vs)) x.1 x.2.1∧Inst (env++x.2.1) yL x.2.2∧WfL x.2.1 })=>x.1.2.2) (fun x=>x.1.1) ?_ ⟨(n,vs,s0),hrep,i0,hwv⟩
 rintro ⟨⟨n,vs,s1⟩,hrep,hI1,hwv⟩
 simp only at hrep hI1 hwv
 cases n with
 | zero=>exact hrep.elim
 | succ n =>
  obtain ⟨hps,hbd⟩:=hrep
  rw [T.uG,T.mV,mW] at hbd
  have hwe:bW (env++vs):=hw.app hwv
  have hbd2:=T.uH hCS hwe hbd
  refine fV ?_
  refine hbody (env++vs) s1 hI1 hwe _ ?_
  refine T.aW (fun _ _ h=>h.2) ?_ hbd2
  rintro i e ⟨⟨l,rfl⟩,he,hq⟩
  cases hts:ts[i]? with
  | none=>simp [List.getD_eq_getElem?_getD,hts,T.sat] at hq
  | some tt =>
   simp only [List.getD_eq_getElem?_getD,hts,Option.getD_some] at hq
   have hi:i<r.L.length:=by rw [← hlen];exact (List.getElem?_eq_some_iff.1 hts).1
   refine ⟨r.L[i],List.getElem?_eq_getElem hi,?_⟩
   rcases wI hsg (List.getElem?_eq_getElem hi) with ⟨a,g1,g2,g3⟩ | ⟨j,g1,g2⟩
   ·rw [hts] at g1
    cases g1
    simp only [T.sat] at hq
    obtain ⟨us,hus,hag⟩:=hq
    intro s' hs'
    obtain ⟨s2,w2,i2⟩:=Dh (ids:=ids) (cv:=cv) hs'
    have hrep' : oD ps (fun again vs=>((r.t.lift 0).sub fun i=>ts.getD i .fail).sat CS (kE again noJ) (LQ os (iL R)) (env++vs)) n us:=hag
    have hgu:(env++us).map (·.1)=yL.g:=by
     rw [List.map_append,hg,hgL]
     cases n with
     | zero=>exact hrep'.elim
     | succ n=>rw [hrep'.1]
    rw [List.append_assoc] at i2 hus
    obtain ⟨s3,w3,i3⟩:=Df (by rw [hn];exact g3) (by rw [wH];exact hlp _ (List.getElem_mem hi)) i2 hus hgu
    refine ⟨s3,jG w2 w3,?_⟩
    simp only at g2
    rw [g2]
    exact ⟨⟨(n,us,s3),hrep',i3,evs_wf (by rw [← List.append_assoc];exact he) hus⟩,Wk.refl,Nat.lt_succ_self n⟩
   ·rw [hts] at g1
    cases g1
    simp only [T.sat] at hq
    obtain ⟨lf,hlf,hR⟩:=hq
    rw [Nat.zero_add] at hlf
    rw [g2] at hlf
    cases hlf
    intro s' hs'
    refine ⟨s',Wk.refl,?_⟩
    have hr:=hR s' hs'
    have hno:=hnn _ (List.mem_iff_getElem?.2 ⟨_,g2⟩)
    split
    ·rename_i e;rw [e] at hno;cases hno
    ·exact hr
end
end Go.Tx
namespace Go.Tx
open Go Go.Ab
section
variable {P:Program} {CS:Calls'} {env:List Val} {y:Sy} {s:Sa} {p:Name}
abbrev abf (k:V→Sa→Prop):Leaf→List Val→Prop:=fun lf e=>∀ s' v,Inst e lf.s s' → ah e lf.v v→k v s'
def Goal (P:Program) (p:Name):Task→Sa→List Val→Res→Prop
 | .code f cd _ _,s,env,r=>∀ R,r.t.sat (dF P) noJ (LQ r.L (iL R)) env→TC P p cd s R
 | .ops f all l,s,env,r=>∀ k:Sa→Prop,r.t.sat (dF P) noJ (LQ r.L (iL fun _=>k)) env→bP P (pJ P) p all l s k
 | .plan f all l,s,env,r=>∀ k:Sa→Prop,r.t.sat (dF P) noJ (LQ r.L (iL fun _=>k)) env→kT P p all l s k
 | .bes f all l2 hb y2 js rest,s,env,r=>∀ (hbs s2:Sa) (k:Sa→Prop),aG env hb.bx hbs.bx→fB env hb.vc hbs.vc→aG env y2.ts s2.ts→r.t.sat (dF P) noJ (LQ r.L (iL fun _=>k)) env →
   EM P p all l2 hbs (fun q=>lkD (aS all q) s2) js s fun sj=>kT P p all rest (aN all sj (l2.map fun q=>(q,lkD (aS all q) s2))) k
 | .call g args,s,env,r=>∀ vs k,aB env args vs→r.t.sat (dF P) noJ (LQ r.L (abf k)) env→nJ P p g vs s k
 | .yld l args,s,env,r=>∀ vs k,aB env args vs→r.t.sat (dF P) noJ (LQ r.L (abf k)) env→aaI P p l vs s k
structure Snd (P:Program) (p:Name) (t:Task) (y:Sy) (r:Res):Prop where
 lp:∀ lf∈r.L,lpS lf.s.lp=lpS y.lp
 go:∀ env s,Inst env y s→bW env→Goal P p t s env r
theorem wJ {f:Leaf→Leaf} {r:Res} {J:Jt} {Q:Leaf→List Val→Prop} (h:(ML f r).t.sat CS J (LQ (ML f r).L Q) env):r.t.sat CS J (LQ r.L fun lf e=>Q (f lf) e) env:=by
 refine T.aW (fun _ _ h=>h) ?_ h
 rintro i e ⟨lf,h1,h2⟩
 simp only [ML,List.getElem?_map] at h1
 obtain ⟨lf0,h3,rfl⟩:=Option.map_eq_some_iff.1 h1
 exact ⟨lf0,h3,h2⟩
theorem iY {L:List Leaf} {Q Q' : Leaf→List Val→Prop} {J:Jt} {t:T} (h:∀ lf∈L,∀ e,Q lf e→Q' lf e) (hs:t.sat CS J (LQ L Q) env):t.sat CS J (LQ L Q') env :=
 T.aW (fun _ _ h=>h) (fun i e ⟨lf,h1,h2⟩=>⟨lf,h1,h lf (List.mem_iff_getElem?.2 ⟨i,h1⟩) e h2⟩) hs
theorem ZO {L:List Leaf} {Q:Leaf→List Val→Prop} {t:T} (hw:bW env) (h:t.sat (dF P) noJ (LQ L Q) env):t.sat (dF P) noJ (LQ L fun lf e=>bW e∧Q lf e) env :=
 T.aW (fun j vs h=>h.2) (fun i e ⟨_,hw,lf,h1,h2⟩=>⟨lf,h1,hw,h2⟩) (T.uH dI hw h)
theorem kY {r r' : Res} {f:Leaf→Nat→Option Res} {Q:Leaf→List Val→Prop} (h:kF r f=some r') (hw:bW env) (hs:r'.t.sat (dF P) noJ (LQ r'.L Q) env) :
  r.t.sat (dF P) noJ (LQ r.L fun lf e=>bW e∧∃ c1 r1,f lf c1=some r1∧r1.t.sat (dF P) noJ (LQ r1.L Q) e) env :=
 ZO hw ((J7 (CS:=dF P) h).1 hs)
theorem jI {r r' : Res} {f:Leaf→Nat→Option Res} (h:kF r f=some r'):∀ lf' ∈ r'.L,∃ lf∈r.L,∃ c1 r1,f lf c1=some r1∧lf' ∈ r1.L :=
 (J7 (CS:=fun _ _ _=>False) h).2
theorem jX {e:Ex} {v:SV} {c:Nat} {Q:Leaf→List Val→Prop} {J:Jt} (h:(one e v y c).t.sat CS J (LQ (one e v y c).L Q) env):Q ⟨e,v,y⟩ env:=by
 obtain ⟨lf,h1,h2⟩:=h
 simp [one] at h1
 subst h1;exact h2
theorem lG {e:Ex} {v:SV} {c:Nat} {lf:Leaf} (h:lf∈(one e v y c).L):lf=⟨e,v,y⟩:=by simpa [one] using h
theorem IC {t1:T} {L1 L2:List Leaf} {Q:Leaf→List Val→Prop} {J:Jt} (h:(iF 0 L1.length t1).sat CS J (LQ (L1++L2) Q) env):t1.sat CS J (LQ L1 Q) env:=by
 refine T.aW (fun _ _ h=>h) ?_ (yH h)
 rintro i e ⟨hi,lf,h1,h2⟩
 rw [Nat.add_zero,List.getElem?_append_left hi] at h1
 exact ⟨lf,h1,h2⟩
theorem IE {t2:T} {L1 L2:List Leaf} {Q:Leaf→List Val→Prop} {J:Jt} (h:(iF L1.length L2.length t2).sat CS J (LQ (L1++L2) Q) env):t2.sat CS J (LQ L2 Q) env:=by
 refine T.aW (fun _ _ h=>h) ?_ (yH h)
 rintro i e ⟨hi,lf,h1,h2⟩
 rw [List.getElem?_append_right (by omega),Nat.add_sub_cancel] at h1
 exact ⟨lf,h1,h2⟩
theorem qm {lv:Lv} {r:Res} {base:List (Name×Lp)} (h:∀ lf∈r.L,lpS lf.s.lp=lpS base):∀ lf∈(keepR lv r).L,lpS lf.s.lp=lpS base:=by
 intro lf hl
 simp only [keepR,List.mem_map] at hl
 obtain ⟨lf0,h0,rfl⟩:=hl
 exact h lf0 h0
theorem Dt {f:Leaf→Leaf} {r:Res} {base:List (Name×Lp)} (hf:∀ lf,(f lf).s=lf.s) (h:∀ lf∈r.L,lpS lf.s.lp=lpS base):∀ lf∈(ML f r).L,lpS lf.s.lp=lpS base:=by
 intro lf hl
 simp only [ML,List.mem_map] at hl
 obtain ⟨lf0,h0,rfl⟩:=hl
 rw [hf];exact h lf0 h0
theorem QB {cl:List (Name×Nat×Ty×Bool)} {r:Res} {R:Ex→Sa→Prop} (h:(yE cl r).t.sat CS noJ (LQ (yE cl r).L (iL R)) env):r.t.sat CS noJ (LQ r.L (iL (WkQ R))) env:=by
 refine T.aW (fun _ _ h=>h) ?_ h
 rintro i e ⟨lf,h1,h2⟩
 simp only [yE,List.getElem?_map] at h1
 obtain ⟨lf0,h3,h4⟩:=Option.map_eq_some_iff.1 h1
 subst h4
 refine ⟨lf0,h3,fun s' hs=>?_⟩
 obtain ⟨s2,w2,i2⟩:=yx (l:=cl) hs
 exact ⟨s2,w2,h2 s2 i2⟩
theorem QC {cl:List (Name×Nat×Ty×Bool)} {r:Res} {base:List (Name×Lp)} (h:∀ lf∈r.L,lpS lf.s.lp=lpS base):∀ lf∈(yE cl r).L,lpS lf.s.lp=lpS base:=by
 intro lf hl
 simp only [yE,List.mem_map] at hl
 obtain ⟨lf0,h0,rfl⟩:=hl
 rw [yA];exact h lf0 h0
theorem Snd.skip {f:FuncId} {lc:LC} {lv:Lv} {c:Nat}:Snd P p (.code f .skip lc lv) y (one .norm .dead y c) :=
 ⟨fun lf h=>by rw [lG h],fun env s hI hw R hs=>Ol (jX hs s hI)⟩
theorem Snd.label {f:FuncId} {lc:LC} {lv:Lv} {c l:Nat}:Snd P p (.code f (.label l) lc lv) y (one .norm .dead y c) :=
 ⟨fun lf h=>by rw [lG h],fun env s hI hw R hs=>TF (jX hs s hI)⟩
theorem Snd.scope {f:FuncId} {b:Code} {lc lb:LC} {lv:Lv} {r:Res} (H:Snd P p (.code f b lb lv) y r):Snd P p (.code f (.scope b) lc lv) y r :=
 ⟨H.lp,fun env s hI hw R hs=>TG (H.go env s hI hw R hs)⟩
theorem Snd.exit {f:FuncId} {lc:LC} {lv:Lv} {c i:Nat}:Snd P p (.code f (.exit i) lc lv) y (one (.exit i) .dead y c) :=
 ⟨fun lf h=>by rw [lG h],fun env s hI hw R hs=>Om (jX hs s hI)⟩
theorem Snd.ret {f:FuncId} {lc:LC} {lv:Lv} {c:Nat}:Snd P p (.code f .ret lc lv) y (one .ret .dead y c) :=
 ⟨fun lf h=>by rw [lG h],fun env s hI hw R hs=>Vt (jX hs s hI)⟩
theorem Snd.region {f:FuncId} {lc:LC} {lv:Lv} {id:Nat} {ops:Array Oper} {r:Res} {cl:List (Name×Nat×Ty×Bool)} (H:Snd P p (.ops f ops ops.toList) y r) :
  Snd P p (.code f (.region id ops false) lc lv) y (keepR lv (yE cl (ML (fun lf=>{ lf with e:=.norm }) r))) :=
 ⟨qm (QC (Dt (fun _=>rfl) H.lp)),fun env s hI hw R hs=>fV (fV (EF (H.go env s hI hw _ (wJ (f:=fun lf=>{ lf with e:=.norm }) (Q:=iL (WkQ (WkQ R))) (QB (qj hs))))))⟩
theorem Snd.draw {f:FuncId} {lc:LC} {lv:Lv} {id:Nat} {ops:Array Oper} {r:Res} {pl:List Seg} (hm:P.follows .mixedOrders=true) (hp:jB ops [] pl=true) {ids:List Name} (H:Snd P p (.plan f ops pl) (kW ids y) r) :
  Snd P p (.code f (.region id ops true) lc lv) y (keepR lv (ML (fun lf=>{ lf with e:=.norm }) r)) :=
 ⟨qm (Dt (fun _=>rfl) fun lf hl=>by rw [H.lp lf hl,qV]),fun env s hI hw R hs=>by
  obtain ⟨s1,w1,i1⟩:=qU (ids:=ids) hI
  exact TC.weaken w1 (fV (WQ pl hm hp (H.go env s1 i1 hw _ (wJ (f:=fun lf=>{ lf with e:=.norm }) (Q:=iL (WkQ R)) (qj hs)))))⟩
theorem Snd.seq {f:FuncId} {a b:Code} {lc la lb:LC} {lv lva lvb:Lv} {r r' : Res} {F:Leaf→Nat→Option Res} (H:Snd P p (.code f a la lva) y r) (h:kF r F=some r')
  (hF:∀ lf c r1,lf.e = .norm→F lf c=some r1→Snd P p (.code f b lb lvb) lf.s r1) (hF' : ∀ lf c r1,lf.e ≠ .norm→F lf c=some r1→r1=one lf.e .dead lf.s c) :
  Snd P p (.code f (.seq a b) lc lv) y r':=by
 constructor
 ·intro lf' hl
  obtain ⟨lf,h1,c1,r1,h2,h3⟩:=jI h lf' hl
  by_cases e:lf.e = .norm
  ·rw [(hF lf c1 r1 e h2).lp _ h3];exact H.lp _ h1
  ·have:=hF' lf c1 r1 e h2;subst this
   rw [lG h3];exact H.lp lf h1
 ·intro env s hI hw R hs
  refine Vs (H.go env s hI hw _ (iY ?_ (kY h hw hs)))
  rintro lf hlf e ⟨hwe,c1,r1,h1,h2⟩ s' hs'
  cases he:lf.e with
  | norm=>exact (hF lf c1 r1 he h1).go e s' hs' hwe R h2
  | ret =>
   have:=hF' lf c1 r1 (by rw [he];intro h;cases h) h1;subst this
   have h3:=jX h2 s' hs'
   rw [he] at h3;exact h3
  | exit i =>
   have:=hF' lf c1 r1 (by rw [he];intro h;cases h) h1;subst this
   have h3:=jX h2 s' hs'
   rw [he] at h3;exact h3
theorem UA {cd:Operand} {b:Bool} (hI:Inst env y s) (hc:y.get cd=some (.e .bool (.bool b))):s.get cd = .d (.v (.bool b)):=by
 have:=hI.get hc
 simp only [ah] at this
 obtain ⟨a,h1,h2⟩:=this
 cases h1
 rw [h2,dL]
theorem Snd.VU {f:FuncId} {cd:Operand} {a b:Code} {lc lc' : LC} {lv:Lv} {r:Res} {w:Bool} (hc:y.get cd=some (.e .bool (.bool w))) (H:Snd P p (.code f (if w then a else b) lc' lv) y r) :
  Snd P p (.code f (.cond cd a b) lc lv) y r :=
 ⟨H.lp,fun env s hI hw R hs=>G6 (UA hI hc) (by
  cases w with
  | true=>simp only [iQ];exact H.go env s hI hw R hs
  | false=>simp only [gK];exact H.go env s hI hw R hs)⟩
theorem Snd.cond {f:FuncId} {cd:Operand} {a b:Code} {lc la lb:LC} {lv:Lv} {r1 r2 r:Res} {x:E} {c:Nat} {lg:Log} (hc:y.get cd=some (.e .bool x)) (H1:Snd P p (.code f a la lv) y r1) (H2:Snd P p (.code f b lb lv) y r2)
  (h:fA y.g false (keepR lv ⟨.ite x (iF 0 r1.L.length r1.t) (iF r1.L.length r2.L.length r2.t),r1.L++r2.L,c,lg⟩)=some r):Snd P p (.code f (.cond cd a b) lc lv) y r:=by
 have hlp:∀ lf∈(keepR lv ⟨.ite x (iF 0 r1.L.length r1.t) (iF r1.L.length r2.L.length r2.t),r1.L++r2.L,c,lg⟩).L,lpS lf.s.lp=lpS y.lp :=
  qm fun lf hl=>(List.mem_append.1 hl).elim (H1.lp lf) (H2.lp lf)
 refine ⟨gX h hlp,fun env s hI hw R hs=>?_⟩
 have h1:=qj ((gW dI h hI.g hw hlp).2 hs)
 simp only [T.sat] at h1
 obtain ⟨w,hx,ht,hf⟩:=h1
 have hv:=hI.get hc
 simp only [ah] at hv
 obtain ⟨w',h2,h3⟩:=hv
 rw [hx] at h2;cases h2
 rw [dL] at h3
 refine fV (fV (G6 h3 ⟨fun e=>H1.go env s hI hw _ (IC (ht e)),fun e=>H2.go env s hI hw _ (IE (hf e))⟩))
theorem Snd.block {f:FuncId} {id:Nat} {b:Code} {lc lb:LC} {lv lvb:Lv} {r r' : Res} (H:Snd P p (.code f b lb lvb) y r)
  (h:fA y.g false (keepR lv (ML (fun lf=>match lf.e with | .exit i=>if i=id then { lf with e:=.norm } else lf | _=>lf) r))=some r'):Snd P p (.code f (.block id b) lc lv) y r':=by
 have hlp:∀ lf∈(keepR lv (ML (fun lf=>match lf.e with | .exit i=>if i=id then { lf with e:=.norm } else lf | _=>lf) r)).L,lpS lf.s.lp=lpS y.lp :=
  qm (Dt (fun lf=>by
   split
   ·split <;> rfl
   ·rfl) H.lp)
 refine ⟨gX h hlp,fun env s hI hw R hs=>?_⟩
 have h1:=wJ (qj ((gW dI h hI.g hw hlp).2 hs))
 refine fV (fV (Jl (H.go env s hI hw _ (iY ?_ h1))))
 intro lf hlf e hq s' hs'
 cases he:lf.e with
 | norm=>rw [he] at hq;simp only [he] at hq;exact hq s' hs'
 | ret=>rw [he] at hq;simp only [he] at hq;exact hq s' hs'
 | exit i =>
  rw [he] at hq
  simp only at hq
  by_cases e:i=id
  ·rw [if_pos e] at hq
   simp only [if_pos e]
   exact hq s' hs'
  ·rw [if_neg e] at hq
   simp only [if_neg e]
   have:=hq s' hs'
   rw [he] at this
   exact this
theorem IG {ids:List Name} {cv:Cv}:(uN ids cv y).g=y.g:=by
 have:∀ (ids:List Name) (y:Sy),(kW ids y).g=y.g:=by
  intro ids
  induction ids with
  | nil=>intro y;rfl
  | cons i ids ih=>intro y;exact (ih _).trans P7
 exact this ids y
theorem UC {g0:List Ty} {h:Option Hint}:(Qn g0 h y).1.lp=y.lp:=by
 unfold Qn
 rfl
theorem Snd.loop {f:FuncId} {b:Code} {lc lb:LC} {lv lvb:Lv} {hh:Option Hint} {yL:Sy} {ps:List Ty} {init:List E} {c0:Nat} {r r' : Res} (hhd:yL.lp=y.lp)
  (hf:Io y.g.length init (uN (NH hh) (hCv hh) y) yL=true) (hgL:yL.g=y.g++ps) (H:Snd P p (.code f b lb lvb) yL r) (h:XK y.g hh yL ps init c0 (keepR lvb r)=some r'):Snd P p (.code f (.loop b) lc lv) y r':=by
 unfold XK at h
 have hlpk:=qm (lv:=lvb) H.lp
 split at h
 ·rename_i ts os hsg
  split at h
  ·rename_i hnn
   have hnn' : ∀ lf∈os,vK lf.e=false:=fun lf hl=>by
    have:=(List.all_eq_true.1 hnn) lf hl
    simpa using this
   have hlp:∀ lf∈os,lpS lf.s.lp=lpS y.lp:=fun lf hl=>by rw [← hhd];exact hlpk lf (oP hsg lf hl)
   refine ⟨gX h hlp,fun env s hI hw R hs=>?_⟩
   obtain ⟨s1,w1,i1⟩:=Dh (ids:=NH hh) (cv:=hCv hh) hI
   refine fV (TC.weaken w1 (Uz (y:=uN (NH hh) (hCv hh) y) dI i1.g (by rw [IG];exact hgL) hw (r:=keepR lvb r) ?_ hlpk (by rw [IG];exact hsg) i1 hnn' (by rw [IG];exact hf) (by rw [hhd,wH]) ((gW dI h hI.g hw hlp).2 hs)))
   intro env' s' hI' hw' R' hs'
   exact fV (H.go env' s' hI' hw' _ (qj hs'))
  ·cases h
 ·have hlp:∀ lf∈((keepR lvb r).L.filter fun lf=>!vK lf.e),lpS lf.s.lp=lpS y.lp:=fun lf hl=>by rw [← hhd];exact hlpk lf (List.mem_filter.1 hl).1
  refine ⟨gX h hlp,fun env s hI hw R hs=>?_⟩
  have:=(gW dI h hI.g hw hlp).2 hs
  exact this.elim
end
end Go.Tx
namespace Go.Tx
open Go Go.Ab
section
variable {P:Program} {CS:Calls'} {env:List Val} {y:Sy} {s:Sa} {p:Name}
theorem qo (hCS:oG CS):∀ {bs:Bs} {env:List Val} {F:List Val→Prop},bW env→iP CS bs env F→iP CS bs env fun e=>bW e∧F e
 | [],env,F,hw,h=>⟨hw,h⟩
 | b::bs,env,F,hw,h=>by
  simp only [iP] at h ⊢
  obtain ⟨v,h1,h2,h3⟩:=h
  exact ⟨v,h1,h2,qo hCS (hw.snoc (B.TK hCS hw h2)) h3⟩
theorem Du {d:Option Tmp} (h:zL y.n d=true) (hn:s.n=y.n):∀ t,d=some t→t<s.n:=by
 intro t e
 subst e
 simp only [zL,decide_eq_true_eq] at h
 rw [hn];exact h
theorem Snd.abP {f:FuncId} {all:Array Oper} {c:Nat}:Snd P p (.ops f all []) y (one .norm .dead y c) :=
 ⟨fun lf h=>by rw [lG h],fun env s hI hw k hs=>jX hs s hI⟩
theorem sW {bs:Bs} {r:Res} {Q:Leaf→List Val→Prop} (hw:bW env) (hs:(binds bs r.t).sat (dF P) noJ (LQ r.L Q) env):iP (dF P) bs env fun e=>bW e∧r.t.sat (dF P) noJ (LQ r.L Q) e:=by
 rw [FT] at hs
 exact qo dI hw hs
theorem Snd.abQ {f:FuncId} {tb:Tab} {all:Array Oper} {o:Oper} {l:List Oper} {bs:Bs} {y1:Sy} {r:Res} (h:FD P tb p all y o=some (bs,y1)) (H:Snd P p (.ops f all l) y1 r) :
  Snd P p (.ops f all (o::l)) y { r with t:=binds bs r.t } :=
 ⟨fun lf hl=>by rw [H.lp lf hl,Dp h],fun env s hI hw k hs=>by
  refine CZ MC hI hw h ?_
  refine bJ ?_ (sW hw hs)
  rintro e ⟨hwe,hq⟩ s' hs'
  exact H.go e s' hs' hwe k hq⟩
theorem yI {C:Cx} {rec:Name→Task→Sy→Nat→Option Res} (H:∀ p t y c r,rec p t y c=some r→Snd C.P p t y r) {f:FuncId} {all:Array Oper} {rest:List Oper} {o:Oper} {c:Nat} {r:Res} (h:vM C rec p f all rest o y c=some r) :
  (∀ lf∈r.L,lpS lf.s.lp=lpS y.lp)∧∀ env s,Inst env y s→bW env→∀ k:Sa→Prop,r.t.sat (dF C.P) noJ (LQ r.L (iL fun _=>k)) env→aP C.P (pJ C.P) p o s fun s'=>bP C.P (pJ C.P) p all rest s' k:=by
 unfold vM at h
 split at h
 ·rename_i cl hop
  split at h
  ·rename_i fv hcl
   split at h
   ·rename_i z args hz hargs
    simp only at h
    have fin:∀ {t:Task} {r0:Res},Snd C.P (o.dst.getD 0::p) t y r0→kF r0 (fun lf c=>if zL lf.s.n o.dst=true then rec p (.ops f all rest) (lf.s.put o.dst lf.v) c else none)=some r →
      (∀ lf∈r.L,lpS lf.s.lp=lpS y.lp)∧∀ env,bW env→∀ k:Sa→Prop,r.t.sat (dF C.P) noJ (LQ r.L (iL fun _=>k)) env →
       r0.t.sat (dF C.P) noJ (LQ r0.L (abf fun v s'=>(∀ d,o.dst=some d→d<s'.n)∧bP C.P (pJ C.P) p all rest (s'.put o.dst v) k)) env:=by
     intro t r0 h0 h
     constructor
     ·intro lf' hl
      obtain ⟨lf,h1,c1,r1,h2,h3⟩:=jI h lf' hl
      split at h2
      ·rw [(H _ _ _ _ _ h2).lp _ h3,dG];exact h0.lp lf h1
      ·cases h2
     ·intro env hw k hs
      refine iY ?_ (kY h hw hs)
      rintro lf hlf e ⟨hwe,c1,r1,h1,h2⟩ s' v hs' hv
      split at h1
      ·rename_i hd
       exact ⟨Du hd hs'.n,(H _ _ _ _ _ h1).go e _ (hs'.put o.dst hv) hwe k h2⟩
      ·cases h1
    have hgets:∀ {env s},Inst env y s→aB env args (cl.args.toList.map s.get):=fun hI=>oN (fun o x hx=>hI.get hx) hargs
    split at h
    ·rename_i r0 hr0
     split at hr0
     ·rename_i g x
      split at hr0
      ·rename_i hcal
       have h0:=H _ _ _ _ _ hr0
       obtain ⟨k1,k2⟩:=fin h0 h
       refine ⟨k1,fun env s hI hw k hs=>?_⟩
       have hv:=hI.get hz
       simp only [ah] at hv
       obtain ⟨a,e1,e2⟩:=hv
       simp only [aP,hop,hcl,e2]
       exact ⟨hcal,h0.go env s hI hw _ _ (hgets hI) (k2 env hw k hs)⟩
      ·cases hr0
     ·rename_i g cap
      split at hr0
      ·rename_i hcal
       have h0:=H _ _ _ _ _ hr0
       obtain ⟨k1,k2⟩:=fin h0 h
       refine ⟨k1,fun env s hI hw k hs=>?_⟩
       have hv:=hI.get hz
       simp only [ah] at hv
       obtain ⟨c',e1,e2⟩:=hv
       simp only [aP,hop,hcl,e1]
       exact ⟨hcal,h0.go env s hI hw _ _ ((hgets hI).append e2) (k2 env hw k hs)⟩
      ·cases hr0
     ·rename_i l
      have h0:=H _ _ _ _ _ hr0
      obtain ⟨k1,k2⟩:=fin h0 h
      refine ⟨k1,fun env s hI hw k hs=>?_⟩
      have hv:=hI.get hz
      simp only [ah] at hv
      simp only [aP,hop,hcl,hv]
      exact h0.go env s hI hw _ _ (hgets hI) (k2 env hw k hs)
     ·cases hr0
    ·cases h
   ·cases h
  ·cases h
 ·cases h
end
end Go.Tx
namespace Go.Tx
open Go Go.Ab
section
variable {P:Program} {CS:Calls'} {env:List Val} {y:Sy} {s:Sa} {p:Name}
theorem aG.abg {κ:Type} {f:SV→SV} (hf:∀ x v,ah env x v→ah env (f x) v):∀ {xs:List (κ×SV)} {vs:List (κ×V)},aG env xs vs→aG env (xs.map fun x=>(x.1,f x.2)) vs
 | [],vs,h=>by simp only [aG] at h;subst h;rfl
 | (k,x)::xs,vs,h=>by
  simp only [aG] at h
  obtain ⟨v,vs',rfl,h2,h3⟩:=h
  exact ⟨v,vs',rfl,hf _ _ h2,h3.abg hf⟩
theorem UD {g:E} (hg:g.val env=some ⟨.bool,true⟩) (hI:Inst env y s):Inst env (XR g y) s :=
 ⟨hI.g,hI.rd,hI.n,hI.ts.abg (fun x v h=>AB (by simp [holds,hg]) h),hI.sv,hI.bx,hI.lp,hI.ow,hI.vc⟩
theorem UE {g:E} (hg:g.val env=some ⟨.bool,false⟩) {z:SV} {v:V} (h:ah env z v):ah env (XT g z) v:=by
 unfold XT
 split
 ·rename_i gs x
  split
  ·rename_i ha
   simp only [ah] at h
   obtain ⟨b,h1,h2,h3,h4⟩:=h
   obtain ⟨g',hm,hs⟩:=List.any_eq_true.1 ha
   have e:=E.same_eq hs
   subst e
   cases b with
   | true=>have:=FH h1 _ hm;rw [hg] at this;cases this
   | false=>rw [h4 rfl];exact ⟨[],rfl,rfl⟩
  ·exact h
 ·exact h
theorem UF {g:E} (hg:g.val env=some ⟨.bool,false⟩) (hI:Inst env y s):Inst env (XU g y) s :=
 ⟨hI.g,hI.rd,hI.n,hI.ts.abg (fun x v h=>UE hg h),hI.sv,hI.bx,hI.lp,hI.ow,hI.vc⟩
theorem J9 {t:Nat} {b:Bool} (hI:Inst env y s) (hl:lkT t s.ts = .d (.v (.bool b))):Inst env { y with ts:=OU t (.e .bool (.bool b)) y.ts } s:=by
 have h:=hI.put (some t) (x:=.e .bool (.bool b)) (v:=.d (.v (.bool b))) (by simp only [ah];exact ⟨b,rfl,by rw [dL]⟩)
 rw [mY hl (by simp)] at h
 exact h
theorem Snd.abh {C:Cx} {rec:Name→Task→Sy→Nat→Option Res} (H:∀ p t y c r,rec p t y c=some r→Snd C.P p t y r) {f:FuncId} {all:Array Oper} {rest:List Oper} {o:Oper} {c:Nat} {r:Res} (hd:zL y.n o.dst=true) (hg:o.guard=none)
  (h:vM C rec p f all rest o y c=some r):Snd C.P p (.ops f all (o::rest)) y r:=by
 obtain ⟨h1,h2⟩:=yI H h
 refine ⟨h1,fun env s hI hw k hs=>?_⟩
 show bP C.P (pJ C.P) p all (o::rest) s k
 simp only [bP,hg]
 refine ⟨?_,h2 env s hI hw k hs⟩
 split
 ·exact Du hd hI.n _ ‹_›
 ·trivial
theorem Snd.ZP {C:Cx} {rec:Name→Task→Sy→Nat→Option Res} (H:∀ p t y c r,rec p t y c=some r→Snd C.P p t y r) {f:FuncId} {all:Array Oper} {rest:List Oper} {o:Oper} {c:Nat} {r:Res} {j:Nat} {want:Bool} {t:Tmp} (hd:zL y.n o.dst=true) (hg:o.guard=some (j,want)) (ht:(all[j]?).bind (·.dst)=some t) (hk:lkS t y.ts = .e .bool (.bool want))
  (h:vM C rec p f all rest o y c=some r):Snd C.P p (.ops f all (o::rest)) y r:=by
 obtain ⟨h1,h2⟩:=yI H h
 refine ⟨h1,fun env s hI hw k hs=>?_⟩
 show bP C.P (pJ C.P) p all (o::rest) s k
 have hlk:=hI.ts.lk (t:=t)
 rw [hk] at hlk
 simp only [ah] at hlk
 obtain ⟨a,e1,e2⟩:=hlk
 cases e1
 rw [dL] at e2
 simp only [bP,hg,ht,e2]
 refine ⟨by
  split
  ·exact Du hd hI.n _ ‹_›
  ·trivial,?_⟩
 have:=h2 env s hI hw k hs
 cases want with
 | true=>simp only [iQ,if_true];rw [mY e2 (by simp)];exact this
 | false=>simp only [gK,Bool.false_eq_true,if_false];rw [mY e2 (by simp)];exact this
theorem Snd.ZQ {C:Cx} {rec:Name→Task→Sy→Nat→Option Res} (H:∀ p t y c r,rec p t y c=some r→Snd C.P p t y r) {f:FuncId} {all:Array Oper} {rest:List Oper} {o:Oper} {c c2 c3:Nat} {lg:Log} {r1 r2:Res} {j:Nat} {want:Bool} {t:Tmp} {x:E} (hd:zL y.n o.dst=true) (hg:o.guard=some (j,want)) (ht:(all[j]?).bind (·.dst)=some t) (hk:lkS t y.ts = .e .bool x)
  (h1:vM C rec p f all rest o (XR (if want then x else .p1 .not x) { y with ts:=OU t (.e .bool (.bool want)) y.ts }) c=some r1)
  (h2:rec p (.ops f all rest) ((XU (if want then x else .p1 .not x) { y with ts:=OU t (.e .bool (.bool !want)) y.ts }).put o.dst (.tup [])) c2=some r2) :
  Snd C.P p (.ops f all (o::rest)) y ⟨if want then .ite x (iF 0 r1.L.length r1.t) (iF r1.L.length r2.L.length r2.t) else .ite x (iF r1.L.length r2.L.length r2.t) (iF 0 r1.L.length r1.t),r1.L++r2.L,c3,lg⟩:=by
 obtain ⟨k1,k2⟩:=yI H h1
 have H2:=H _ _ _ _ _ h2
 constructor
 ·intro lf hl
  rcases List.mem_append.1 hl with hl | hl
  ·rw [k1 lf hl];rfl
  ·rw [H2.lp lf hl,dG];rfl
 ·intro env s hI hw k hs
  show bP C.P (pJ C.P) p all (o::rest) s k
  have hlk:=hI.ts.lk (t:=t)
  rw [hk] at hlk
  simp only [ah] at hlk
  obtain ⟨b,hx,e2⟩:=hlk
  rw [dL] at e2
  simp only [bP,hg,ht,e2]
  refine ⟨by
   split
   ·exact Du hd hI.n _ ‹_›
   ·trivial,?_⟩
  have yes:b=want→r1.t.sat (dF C.P) noJ (LQ r1.L (iL fun _=>k)) env→aP C.P (pJ C.P) p o s fun s'=>bP C.P (pJ C.P) p all rest s' k:=fun e h=>by
   refine k2 env s (UD ?_ (J9 hI (by rw [e2,e]))) hw k h
   rw [oO want hx,e];simp
  have no:b=(!want)→r2.t.sat (dF C.P) noJ (LQ r2.L (iL fun _=>k)) env→bP C.P (pJ C.P) p all rest (s.put o.dst (.tup [])) k:=fun e h=>by
   refine H2.go env _ ((UF ?_ (J9 hI (by rw [e2,e]))).put o.dst ⟨[],rfl,rfl⟩) hw k h
   rw [oO want hx,e];cases want <;> simp
  have hps:=mY e2 (by simp)
  cases want with
  | true =>
   simp only [if_true,T.sat] at hs
   obtain ⟨b',h3,h4,h5⟩:=hs
   rw [hx] at h3;cases h3
   cases b with
   | true=>simp only [iQ,if_true];rw [hps];exact yes rfl (IC (h4 rfl))
   | false=>simp only [gK,if_true];rw [hps];exact no rfl (IE (h5 rfl))
  | false =>
   simp only [Bool.false_eq_true,if_false,T.sat] at hs
   obtain ⟨b',h3,h4,h5⟩:=hs
   rw [hx] at h3;cases h3
   cases b with
   | true=>simp only [iQ,Bool.false_eq_true,if_false];rw [hps];exact no rfl (IE (h4 rfl))
   | false=>simp only [gK,Bool.false_eq_true,if_false];rw [hps];exact yes rfl (IC (h5 rfl))
theorem lZ:∀ {z:SV} {v:V},qX z=true→ah env z v→v.notNil=true
 | .nil,v,h,_=>by cases h
 | .gd gs x,v,h,hv=>by
  simp only [qX] at h
  simp only [ah] at hv
  obtain ⟨b,h1,h2,h3,h4⟩:=hv
  cases b with
  | true=>exact lZ h (h3 rfl)
  | false=>rw [h4 rfl];rfl
 | .e t x,v,_,hv=>by simp only [ah] at hv;obtain ⟨a,_,rfl⟩:=hv;rfl
 | .own _ _ _ _,v,_,hv=>by simp only [ah] at hv;obtain ⟨a,_,_,rfl⟩:=hv;rfl
 | .ptr _ _,v,_,hv=>by simp only [ah] at hv;subst hv;rfl
 | .aptr _ _ _ _ _ _,v,_,hv=>by simp only [ah] at hv;obtain ⟨k,j,_,_,_,rfl⟩:=hv;rfl
 | .ref _ _ _,v,_,hv=>by simp only [ah] at hv;obtain ⟨a,cs,_,rfl,_⟩:=hv;rfl
 | .fn _ _,v,_,hv=>by simp only [ah] at hv;obtain ⟨c,rfl,_⟩:=hv;rfl
 | .yld _,v,_,hv=>by simp only [ah] at hv;subst hv;rfl
 | .mref _,v,_,hv=>by simp only [ah] at hv;subst hv;rfl
 | .mpc _ _ _,v,_,hv=>by simp only [ah] at hv;obtain ⟨a,kvs,_,rfl,_⟩:=hv;rfl
 | .agg _,v,_,hv=>by simp only [ah] at hv;obtain ⟨c,rfl,_⟩:=hv;rfl
 | .mix _ _ _ _,v,_,hv=>by simp only [ah] at hv;obtain ⟨a,c,_,rfl,_⟩:=hv;rfl
 | .tup _,v,_,hv=>by simp only [ah] at hv;obtain ⟨c,rfl,_⟩:=hv;rfl
 | .kd _,v,_,hv=>by simp only [ah] at hv;subst hv;rfl
 | .vsl _,v,_,hv=>by simp only [ah] at hv;subst hv;rfl
 | .vpt _ _ _ _,v,_,hv=>by simp only [ah] at hv;obtain ⟨k,j,_,_,rfl⟩:=hv;rfl
 | .dead,v,_,hv=>by simp only [ah] at hv;subst hv;rfl
theorem MQ {x:Operand} (h:Iy (y.get x)=true) (hI:Inst env y s):(s.get x).notNil=true:=by
 cases hx:y.get x with
 | none=>rw [hx] at h;cases h
 | some z=>rw [hx] at h;exact lZ h (hI.get hx)
theorem FV {o:Op} (h:Qq y o=true) (hI:Inst env y s):uw s o=true:=by
 cases o <;> first | rfl | exact MQ h hI
theorem Dv {C:Cx} {all:Array Oper}:∀ {l:List Nat} {y:Sy} {bs:Bs} {y1:Sy},J4 C p all l y=some (bs,y1)→y1.lp=y.lp
 | [],y,bs,y1,h=>by cases h;rfl
 | i::l,y,bs,y1,h=>by
  simp only [J4] at h
  split at h
  ·split at h
   ·split at h
    ·rename_i bs1 y2 h1
     split at h
     ·rename_i bs2 y3 h2
      cases h
      rw [Dv h2,Dp h1]
     ·cases h
    ·cases h
   ·cases h
  ·cases h
theorem Dw {C:Cx} {all:Array Oper} {k:Sa→Prop}:∀ {l:List Nat} {y:Sy} {bs:Bs} {y1:Sy} {s:Sa} {env:List Val},J4 C p all l y=some (bs,y1)→Inst env y s→bW env →
  iP (dF C.P) bs env (fun e=>∀ s',Inst e y1 s' → k s')→EL C.P p all l s k
 | [],y,bs,y1,s,env,h,hI,hw,hb=>by cases h;exact hb s hI
 | i::l,y,bs,y1,s,env,h,hI,hw,hb=>by
  simp only [J4] at h
  split at h
  ·rename_i o ho
   split at h
   ·rename_i hn
    split at h
    ·rename_i bs1 y2 h1
     split at h
     ·rename_i bs2 y3 h2
      cases h
      rw [qc] at hb
      simp only [EL,ho]
      refine ⟨FV hn hI,CZ x9 hI hw h1 ?_⟩
      refine bJ ?_ (qo dI hw hb)
      rintro e ⟨hwe,hq⟩ s' hs'
      exact Dw h2 hs' hwe hq
     ·cases h
    ·cases h
   ·cases h
  ·cases h
theorem Snd.abR {f:FuncId} {all:Array Oper} {c:Nat}:Snd P p (.plan f all []) y (one .norm .dead y c) :=
 ⟨fun lf h=>by rw [lG h],fun env s hI hw k hs=>jX hs s hI⟩
theorem Snd.abj {C:Cx} {f:FuncId} {all:Array Oper} {g:List Nat} {rest:List Seg} {bs:Bs} {y1:Sy} {r:Res} (h:J4 C p all g y=some (bs,y1)) (H:Snd C.P p (.plan f all rest) y1 r) :
  Snd C.P p (.plan f all (.calm g::rest)) y { r with t:=binds bs r.t } :=
 ⟨fun lf hl=>by rw [H.lp lf hl,Dv h],fun env s hI hw k hs=>by
  refine Dw h hI hw ?_
  refine bJ ?_ (sW hw hs)
  rintro e ⟨hwe,hq⟩ s' hs'
  exact H.go e s' hs' hwe k hq⟩
theorem Snd.abS {f:FuncId} {all:Array Oper} {i:Nat} {o:Oper} {rest:List Seg} {r r' : Res} {F:Leaf→Nat→Option Res} (ho:all[i]? = some o) (H:Snd P p (.ops f all [o]) y r) (h:kF r F=some r')
  (hF:∀ lf c r1,F lf c=some r1→Snd P p (.plan f all rest) lf.s r1):Snd P p (.plan f all (.bar i::rest)) y r':=by
 constructor
 ·intro lf' hl
  obtain ⟨lf,h1,c1,r1,h2,h3⟩:=jI h lf' hl
  rw [(hF lf c1 r1 h2).lp _ h3];exact H.lp _ h1
 ·intro env s hI hw k hs
  show kT P p all (.bar i::rest) s k
  simp only [kT,ho]
  refine H.go env s hI hw _ (iY ?_ (kY h hw hs))
  rintro lf hlf e ⟨hwe,c1,r1,h1,h2⟩ s' hs'
  exact (hF lf c1 r1 h1).go e s' hs' hwe k h2
end
end Go.Tx
namespace Go.Tx
open Go Go.Ab
section
variable {P:Program} {CS:Calls'} {env:List Val} {y:Sy} {s:Sa} {p:Name} {all:Array Oper}
theorem jY {CS:Calls'}:∀ {bs:Bs} {env:List Val} {Q:List Val→Prop},iP CS bs env Q→iP CS bs env fun e=>(∃ l,e=env++l)∧Q e
 | [],env,Q,h=>⟨⟨[],by simp⟩,h⟩
 | b::bs,env,Q,h=>by
  obtain ⟨v,h0,h1,h2⟩:=h
  refine ⟨v,h0,h1,bJ ?_ (jY h2)⟩
  rintro e ⟨⟨l,rfl⟩,hq⟩
  exact ⟨⟨v::l,by simp⟩,hq⟩
theorem aG.Dx {κ:Type} {env:List Val} {f:κ→Bool}:∀ {xs:List (κ×SV)} {vs:List (κ×V)},aG env xs vs→aG env (xs.filter fun x=>f x.1) (vs.filter fun x=>f x.1)
 | [],vs,h=>by simp only [aG] at h;subst h;simp [aG]
 | (k,x)::xs,vs,h=>by
  simp only [aG] at h
  obtain ⟨v,l,rfl,h1,h2⟩:=h
  simp only [List.filter_cons]
  split
  ·exact ⟨v,_,rfl,h1,h2.Dx⟩
  ·exact h2.Dx
theorem Inst.hide {H:List Name} (h:Inst env y s):Inst env (MN H y) (hide H s) :=
 ⟨h.g,h.rd,h.n,h.ts,h.sv,h.bx.Dx (f:=fun n=>!H.contains n),h.lp,h.ow,h.vc.filter (q:=fun n=>!H.contains n)⟩
def qY (env:List Val) (z:Eh) (x:Eff):Prop:=x.i=z.i∧ah env z.z x.v∧aG env z.w x.w∧fB env z.wv x.wv
theorem qY.app {z:Eh} {x:Eff} (l:List Val) (h:qY env z x):qY (env++l) z x:=⟨h.1,h.2.1.app l,h.2.2.1.app l,h.2.2.2.app l⟩
def qp (env:List Val):List Eh→List Eff→Prop
 | [],L=>L=[]
 | z::zs,L=>∃ x L',L=x::L' ∧ qY env z x∧qp env zs L'
theorem qp.mem:∀ {zs:List Eh} {L:List Eff},qp env zs L→∀ x∈L,∃ z∈zs,qY env z x
 | [],L,h,x,hx=>by simp only [qp] at h;subst h;cases hx
 | z::zs,L,h,x,hx=>by
  obtain ⟨x',L',rfl,h1,h2⟩:=h
  rcases List.mem_cons.1 hx with rfl | hx
  ·exact ⟨z,List.mem_cons_self,h1⟩
  ·obtain ⟨z',h3,h4⟩:=h2.mem x hx
   exact ⟨z',List.mem_cons_of_mem _ h3,h4⟩
theorem jo {bs:Bs} {e:Eh} {r:Option (Bs×List Eh×Sy)} {bs' : Bs} {L:List Eh} {y' : Sy} (h:Qr bs e r=some (bs',L,y')):∃ bs2 L2,r=some (bs2,L2,y')∧bs' = bs++bs2∧L=e::L2:=by
 cases r with
 | none=>cases h
 | some q=>obtain ⟨a,b,c⟩:=q;cases h;exact ⟨a,b,rfl,rfl,rfl⟩
theorem X0 {d:Option Tmp} (h:Inst env y s):ah env (VP d y) (lkD d s):=by
 cases d with
 | none=>rfl
 | some t=>exact h.ts.lk
theorem yK {C:Cx} {H:Nat→List Name}:∀ {l:List Nat} {y:Sy} {bs:Bs} {L:List Eh} {y1:Sy},Si C p all H l y=some (bs,L,y1)→y1.lp=y.lp
 | [],y,bs,L,y1,h=>by cases h;rfl
 | i::l,y,bs,L,y1,h=>by
  simp only [Si] at h
  split at h
  ·rename_i o ho
   split at h
   ·split at h
    ·split at h
     ·split at h
      ·obtain ⟨bs2,L2,h1,_,_⟩:=jo h
       rw [yK h1,dG]
      ·cases h
     ·cases h
    ·cases h
   ·split at h
    ·split at h
     ·split at h
      ·obtain ⟨bs2,L2,h1,_,_⟩:=jo h
       rw [yK h1]
      ·cases h
     ·cases h
    ·split at h
     ·rename_i bs1 y2 w1 e1 h2
      split at h
      ·obtain ⟨bs2,L2,h1,_,_⟩:=jo h
       rw [yK h1]
       unfold abd at h2
       split at h2
       ·split at h2
        ·cases h2;rfl
        ·cases h2
       ·cases h2
      ·cases h
     ·cases h
    ·cases h
   ·split at h
    ·split at h
     ·rename_i bs1 y2 h2
      obtain ⟨bs2,L2,h1,_,_⟩:=jo h
      rw [yK h1]
      have:=Dp h2
      exact this
     ·cases h
    ·cases h
  ·cases h
theorem yM {C:Cx} {H:Nat→List Name} {k:List Eff→Sa→Prop}:∀ {l:List Nat} {y:Sy} {bs:Bs} {L:List Eh} {y1:Sy} {s:Sa} {env:List Val} {L0:List Eff},Si C p all H l y=some (bs,L,y1)→Inst env y s→bW env →
  iP (dF C.P) bs env (fun e=>∀ s' L',Inst e y1 s' → qp e L L' → k (L0++L') s')→qA C.P p all H l L0 s k
 | [],y,bs,L,y1,s,env,L0,h,hI,hw,hb=>by
  cases h
  have:=hb s [] hI rfl
  simpa [qA] using this
 | i::l,y,bs,L,y1,s,env,L0,h,hI,hw,hb=>by
  simp only [Si] at h
  split at h
  ·rename_i o ho
   split at h
   ·rename_i ty hop
    split at h
    ·rename_i t hd hg
     split at h
     ·rename_i z hz
      split at h
      ·rename_i hc
       obtain ⟨c1,c2,c3,c4,c5⟩:=hc
       obtain ⟨bs2,L2,h1,rfl,rfl⟩:=jo h
       have hv:=yh (env:=env) hz
       obtain ⟨q1,q2⟩:=jf c4 hv
       simp only [qA,ho,hop,hd,hg]
       refine ⟨by rw [hI.n];exact c1,c2,lZ c3 hv,q1,q2,(hI.bx.look).2 (yj c5),?_⟩
       have hdst:aS all i=some t:=(dY ho).trans hd
       have hI2:Inst env (({ y with bx:=(t::p,z)::y.bx }:Sy).put (some t) (.ptr (t::p) 0)) (nN all s ⟨i,.ptr (t::p) 0,[(t::p,bV C.P ty)],[]⟩):=by
        simp only [nN,hdst]
        have h3:Inst env ({ y with bx:=(t::p,z)::y.bx }:Sy) ({ s with bx:=iO [(t::p,bV C.P ty)] s.bx,vc:=iO [] s.vc }:Sa) :=
         ⟨hI.g,hI.rd,hI.n,hI.ts,hI.sv,⟨_,_,rfl,hv,hI.bx⟩,hI.lp,hI.ow,hI.vc⟩
        exact h3.put (some t) rfl
       refine yM h1 hI2 hw (bJ ?_ (jY hb))
       rintro e ⟨⟨ext,rfl⟩,hq⟩ s' L' hs' hL'
       have:=hq s' (⟨i,.ptr (t::p) 0,[(t::p,bV C.P ty)],[]⟩::L') hs' ⟨_,_,rfl,⟨rfl,rfl,⟨_,_,rfl,yh hz,rfl⟩,rfl⟩,hL'⟩
       simpa using this
      ·cases h
     ·cases h
    ·cases h
   ·rename_i ty x v hop
    split at h
    ·rename_i nm off zv hd hg hx hzv
     split at h
     ·rename_i c c' hc hst
      split at h
      ·rename_i hcc
       obtain ⟨c1,c2,c3,c4⟩:=hcc
       obtain ⟨bs2,L2,h1,rfl,rfl⟩:=jo h
       have hxv:=hI.get hx
       simp only [ah] at hxv
       have hvv:=hI.get hzv
       have hvc:=uI (w:=tyD C.P ty) hvv
       obtain ⟨cv,hcv,hcI⟩:=(hI.bx.look).1 hc
       rw [hc] at hst
       obtain ⟨k1,k2,k3⟩:=Fa hst hvc hcI
       obtain ⟨q1,q2⟩:=jf c4 hvc
       simp only [qA,ho,hop,hd,hg,hxv,hcv]
       refine ⟨c1,lZ c2 hvv,k3,c3,q1,by rw [← q1];exact k2,?_⟩
       have hdst:aS all i=none:=(dY ho).trans hd
       have hI2:Inst env ({ y with bx:=(nm,c')::y.bx }:Sy) (nN all s ⟨i,.dead,[(nm,cZ off (s.get v) cv)],[]⟩):=by
        simp only [nN,hdst]
        exact ⟨hI.g,hI.rd,hI.n,hI.ts,hI.sv,⟨_,_,rfl,k1,hI.bx⟩,hI.lp,hI.ow,hI.vc⟩
       refine yM h1 hI2 hw (bJ ?_ (jY hb))
       rintro e ⟨⟨ext,rfl⟩,hq⟩ s' L' hs' hL'
       have:=hq s' (⟨i,.dead,[(nm,cZ off (s.get v) cv)],[]⟩::L') hs' ⟨_,_,rfl,⟨rfl,rfl,⟨_,_,rfl,k1.app ext,rfl⟩,rfl⟩,hL'⟩
       simpa using this
      ·cases h
     ·cases h
    ·rename_i nm u ix inn zv hd hg hx hzv
     split at h
     ·rename_i bs1 y2 w2 e2 hvs
      split at h
      ·rename_i hcc
       obtain ⟨c1,c2⟩:=hcc
       obtain ⟨bs2,L2,h1,rfl,rfl⟩:=jo h
       unfold abd at hvs
       split at hvs
       ·rename_i u' l w e hl has
        split at hvs
        ·rename_i hc
         obtain ⟨d0,d1,d2,d3,d4,d5⟩:=hc
         subst d0;subst d4;subst d5
         cases hvs
         have hxv:=hI.get hx
         simp only [ah] at hxv
         obtain ⟨kd,j,j1,j2,j3⟩:=hxv
         have hvv:=hI.get hzv
         have hvc:=uI (w:=tyD C.P ty) hvv
         obtain ⟨al,a1,a2⟩:=(hI.vc.look).1 hl
         obtain ⟨b,b1,b2⟩:=qJ has hvc
         obtain ⟨q,q0⟩:=Option.isSome_iff_exists.1 d3
         have hcell:=(jf q0 hvc).2
         rw [qc] at hb
         obtain ⟨r,r1,r2,r3⟩:=bQ hI.len (qo dI hw hb)
         obtain ⟨r2a,r2⟩:=r2
         obtain ⟨a',b',d',rr,cc,x1,x2,x3,x4,x5,x6⟩:=r1
         rw [a1] at x1;cases x1
         rw [j1] at x2;cases x2
         rw [b1] at x3;cases x3
         simp only [LZ,dif_pos,Option.some.injEq] at x4
         subst x4
         simp only at x5
         split at x5
         ·rename_i hlt
          cases x5;cases x6
          have hu0:w2.size≠0:=by rw [d1];exact d2
          have hdst:aS all i=none:=(dY ho).trans hd
          have e1:zY w2.size (j.toNat * w2.size+0) (bD w2 b) (al.map (bD w2))=(al.set j.toNat b).map (bD w2):=FB al j.toNat hlt.2 b hu0
          have h4:=hI.snoc (⟨.sl w2,al.set j.toNat b⟩:Val)
          have hI2:Inst (env++[⟨.sl w2,al.set j.toNat b⟩]) ({ y.more [.sl w2] with vc:=(nm,(w2,.var y.g.length))::y.vc }:Sy) (nN all s ⟨i,.dead,[],[(nm,(w2.size,zY w2.size (j.toNat * w2.size+0) (bD w2 b) (al.map (bD w2))))]⟩):=by
           simp only [nN,hdst,e1]
           exact ⟨h4.g,h4.rd,h4.n,h4.ts,h4.sv,h4.bx,h4.lp,h4.ow,⟨_,_,rfl,r3,h4.vc⟩⟩
          have hdm:j.toNat * w2.size+0=w2.size * j.toNat:=by rw [Nat.add_zero,Nat.mul_comm]
          simp only [qA,ho,hop,hd,hg,j3,a2,b2]
          refine ⟨c1,lZ c2 hvv,hcell,d2,by rw [aF,ak];exact d1,by rw [hdm,Nat.mul_mod_right];omega,by rw [hdm,Nat.mul_div_cancel_left _ (Nat.pos_of_ne_zero hu0),List.length_map];exact hlt.2,?_⟩
          refine yM h1 hI2 r2a (bJ ?_ (jY r2))
          rintro e ⟨⟨ext,rfl⟩,hq⟩ s' L' hs' hL'
          have hv2:=E.dh ext r3
          have:=hq s' (⟨i,.dead,[],[(nm,(w2.size,zY w2.size (j.toNat * w2.size+0) (bD w2 b) (al.map (bD w2))))]⟩::L') hs' ⟨_,_,rfl,⟨rfl,rfl,rfl,⟨al.set j.toNat b,[],by rw [e1],hv2,rfl⟩⟩,hL'⟩
          simpa using this
         ·cases x5
        ·cases hvs
       ·cases hvs
      ·cases h
     ·cases h
    ·cases h
   ·rename_i hna hns
    split at h
    ·rename_i hcc
     obtain ⟨c1,c2,c3⟩:=hcc
     split at h
     ·rename_i bs1 y2 h2
      obtain ⟨bs2,L2,h1,rfl,rfl⟩:=jo h
      have goal:calm o.op=true∧o.dst.isSome=true∧uw s o.op=true∧bP C.P (BZ C.P) p all [o] (hide (H i) s) fun s' =>
        qA C.P p all H l (L0++[⟨i,lkD o.dst s',[],[]⟩]) { s' with bx:=s.bx,vc:=s.vc } k:=by
       refine ⟨c1,c2,FV c3 hI,CZ x9 hI.hide hw h2 ?_⟩
       rw [qc] at hb
       refine bJ ?_ (jY (qo dI hw hb))
       rintro e ⟨⟨ext,rfl⟩,hwe,hq⟩ s' hs'
       simp only [bP]
       have hI2:Inst (env++ext) ({ y2 with bx:=y.bx,vc:=y.vc }:Sy) ({ s' with bx:=s.bx,vc:=s.vc }:Sa) :=
        ⟨hs'.g,hs'.rd,hs'.n,hs'.ts,hs'.sv,hI.bx.app ext,hs'.lp,hs'.ow,hI.vc.app ext⟩
       refine yM h1 hI2 hwe (bJ ?_ (jY hq))
       rintro e2 ⟨⟨ext2,rfl⟩,hq2⟩ s2 L' hs2 hL'
       have:=hq2 s2 (⟨i,lkD o.dst s',[],[]⟩::L') hs2 ⟨_,_,rfl,⟨rfl,(X0 hs').app ext2,rfl,rfl⟩,hL'⟩
       simpa using this
      unfold qA
      rw [ho]
      simp only
      exact goal
     ·cases h
    ·cases h
  ·cases h
theorem Dy {α:Type} {nm:Name}:∀ {l:List (Name×α)},aj nm (ddN l)=aj nm l
 | []=>rfl
 | (n,x)::l=>by
  have hf:∀ {l:List (Name×α)},n≠nm→aj nm (l.filter fun y=>!decide (y.1=n))=aj nm l:=by
   intro l hne
   induction l with
   | nil=>rfl
   | cons z l ih =>
    obtain ⟨a,b⟩:=z
    rw [List.filter_cons]
    by_cases e:a=n
    ·subst e
     simp only [decide_true,Bool.not_true,Bool.false_eq_true,if_false,aj,if_neg hne]
     exact ih
    ·simp only [e,decide_false,Bool.not_false,if_true,aj,ih]
  simp only [ddN,aj]
  split
  ·rfl
  ·rename_i h
   rw [hf h,Dy]
theorem aG.dd:∀ {xs:List (Name×SV)} {vs:List (Name×V)},aG env xs vs→aG env (ddN xs) (ddN vs)
 | [],vs,h=>by simp only [aG] at h;subst h;rfl
 | (k,x)::xs,vs,h=>by
  obtain ⟨v,l,rfl,h1,h2⟩:=h
  exact ⟨v,_,rfl,h1,(h2.dd).Dx (f:=fun n=>!decide (n=k))⟩
theorem fB.dd:∀ {xs:List (Name×Ty×E)} {vs:List (Name×Nat×List D)},fB env xs vs→fB env (ddN xs) (ddN vs)
 | [],vs,h=>by simp only [fB] at h;subst h;rfl
 | (k,t,x)::xs,vs,h=>by
  obtain ⟨a,l,rfl,h1,h2⟩:=h
  exact ⟨a,_,rfl,h1,(h2.dd).filter (q:=fun n=>!decide (n=k))⟩
theorem fB.keys:∀ {xs:List (Name×Ty×E)} {vs:List (Name×Nat×List D)},fB env xs vs→vs.map (·.1)=xs.map (·.1)
 | [],vs,h=>by simp only [fB] at h;subst h;rfl
 | (k,t,x)::xs,vs,h=>by
  obtain ⟨a,l,rfl,h1,h2⟩:=h
  simp only [List.map_cons,h2.keys]
theorem aG.ZR {κ:Type}:∀ {xs:List (κ×SV)} {vs:List (κ×V)},aG env xs vs→vs.map (·.1)=xs.map (·.1)
 | [],vs,h=>by simp only [aG] at h;subst h;rfl
 | (k,x)::xs,vs,h=>by
  obtain ⟨v,l,rfl,h1,h2⟩:=h
  simp only [List.map_cons,h2.ZR]
theorem qY.names {z:Eh} {x:Eff} (h:qY env z x):EU x=FQ z:=by
 unfold EU FQ
 rw [h.2.2.1.ZR,h.2.2.2.keys]
theorem aG.keys {κ:Type}:∀ {xs:List (κ×SV)} {vs:List (κ×V)},aG env xs vs→∀ q∈vs,∃ z∈xs,z.1=q.1∧ah env z.2 q.2
 | [],vs,h,q,hq=>by simp only [aG] at h;subst h;cases hq
 | (k,x)::xs,vs,h,q,hq=>by
  obtain ⟨v,l,rfl,h1,h2⟩:=h
  rcases List.mem_cons.1 hq with rfl | hq
  ·exact ⟨(k,x),List.mem_cons_self,rfl,h1⟩
  ·obtain ⟨z,h3,h4⟩:=h2.keys q hq
   exact ⟨z,List.mem_cons_of_mem _ h3,h4⟩
theorem UG {pre:Nat→List Nat} {H:Nat→List Name} {L:List Eh} {L' : List Eff} (h:XO all p pre H y L=true) (hI:Inst env y s) {e:List Val} (hL:qp e L L'):abE all p pre H s L':=by
 simp only [XO,Bool.and_eq_true] at h
 obtain ⟨h1,h2⟩:=h
 constructor
 ·intro a ha x hx hu q hq
  obtain ⟨za,m1,i1⟩:=hL.mem a ha
  obtain ⟨zx,m2,i2⟩:=hL.mem x hx
  have h3:=List.all_eq_true.1 (List.all_eq_true.1 h1 za m1) zx m2
  rw [← i1.1,← i2.1,Aq.2 hu] at h3
  simp only [Bool.not_true,Bool.false_or,List.all_eq_true] at h3
  rw [i2.names] at hq
  have h4:=h3 q hq
  simp only [Bool.and_eq_true,List.all_eq_true,Bool.not_eq_true',decide_eq_false_iff_not] at h4
  refine ⟨h4.1,fun z hz=>?_⟩
  rw [i1.names] at hz
  exact h4.2 z hz
 ·intro a ha nm hnm
  obtain ⟨za,m1,i1⟩:=hL.mem a ha
  have h3:=List.all_eq_true.1 h2 za m1
  rw [← i1.1] at h3
  have h4:=List.all_eq_true.1 h3 nm hnm
  simp only [Bool.and_eq_true,Bool.not_eq_true'] at h4
  refine ⟨hI.refs h4.1,fun x hx hne hnp=>?_⟩
  obtain ⟨zx,m2,i2⟩:=hL.mem x hx
  have h5:=List.all_eq_true.1 h4.2 zx m2
  rw [← i2.1] at h5
  simp only [Bool.or_eq_true,Bool.and_eq_true,Bool.not_eq_true',List.contains_eq_mem,decide_eq_true_eq] at h5
  rcases h5 with h5 | h5 | h5
  ·exact absurd (Nat.eq_of_beq_eq_true h5) hne
  ·exact absurd h5 hnp
  ·refine ⟨i2.2.1.refs nm h5.1,fun q hq=>?_⟩
   obtain ⟨w,m3,_,e3⟩:=i2.2.2.1.keys q hq
   have:=List.all_eq_true.1 h5.2 w m3
   simp only [Bool.not_eq_true'] at this
   exact e3.refs nm this
theorem Snd.mix {C:Cx} {f:FuncId} {lc:LC} {lv:Lv} {id:Nat} {ops:Array Oper} {r:Res} {ord:List Nat} {c:Nat} (hm:C.P.follows .mixedOrders=true) (h:abe C p ops ord y c=some r) :
  Snd C.P p (.code f (.region id ops true) lc lv) y (keepR lv r):=by
 unfold abe at h
 simp only at h
 split at h
 ·rename_i hp
  split at h
  ·rename_i L0 _ h0
   split at h
   ·rename_i bs L y1 h1
    split at h
    ·rename_i hcb
     cases h
     have hlp:=yK h1
     refine ⟨qm fun lf hl=>?_,fun env s hI hw R hs=>?_⟩
     ·simp only [List.mem_singleton] at hl
      subst hl
      show lpS y1.lp=lpS y.lp
      rw [hlp]
     ·refine fV (Zo ord (fun i=>Iu i (aaR ops ord [])) (hOf (fun i=>Iu i (aaR ops ord [])) L0) hm hp ?_)
      have hq:=qj hs
      refine yM h1 hI hw (bJ ?_ (sW (r:=⟨.hole 0,[⟨.norm,.dead,{ y1 with bx:=ddN y1.bx,vc:=ddN y1.vc }⟩],c,[]⟩) hw hq))
      rintro e ⟨hwe,hh⟩ s' L' hs' hL'
      rw [List.nil_append]
      refine ⟨UG hcb hI hL',?_⟩
      obtain ⟨lf,e1,e2⟩:=hh
      simp only [List.getElem?_cons_zero,Option.some.injEq] at e1
      subst e1
      have hI2:Inst e ({ y1 with bx:=ddN y1.bx,vc:=ddN y1.vc }:Sy) ({ s' with bx:=ddN s'.bx,vc:=ddN s'.vc }:Sa):=⟨hs'.g,hs'.rd,hs'.n,hs'.ts,hs'.sv,hs'.bx.dd,hs'.lp,hs'.ow,hs'.vc.dd⟩
      obtain ⟨s2,w2,r2⟩:=e2 _ hI2
      have hE:Eqv s' ({ s' with bx:=ddN s'.bx,vc:=ddN s'.vc }:Sa):=⟨rfl,rfl,rfl,fun nm=>Dy.symm,rfl,rfl,fun _=>rfl,fun nm=>Dy.symm⟩
      exact ⟨s2,jG hE.wk w2,r2⟩
    ·cases h
   ·cases h
  ·cases h
 ·cases h
end
end Go.Tx
namespace Go.Tx
open Go Go.Ab
section
variable {P:Program} {CS:Calls'} {env:List Val} {y:Sy} {s:Sa} {p:Name} {all:Array Oper}
mutual
theorem ah.det:∀ {x:SV} {v u:V},NI x=true→ah env x v→ah env x u→v=u
 | .e t x,v,u,h,hv,hu=>by
  simp only [ah] at hv hu
  obtain ⟨a,h1,rfl⟩:=hv;obtain ⟨b,h2,rfl⟩:=hu
  rw [h1] at h2;cases h2;rfl
 | .nil,v,u,h,hv,hu=>by simp only [ah] at hv hu;rw [hv,hu]
 | .own id sz t x,v,u,h,hv,hu=>by
  simp only [ah] at hv hu
  obtain ⟨a,h1,_,rfl⟩:=hv;obtain ⟨b,h2,_,rfl⟩:=hu
  rw [h1] at h2;cases h2;rfl
 | .ptr n off,v,u,h,hv,hu=>by simp only [ah] at hv hu;rw [hv,hu]
 | .aptr n off m t i inn,v,u,h,hv,hu=>by
  simp only [ah] at hv hu
  obtain ⟨k,j,h1,_,_,rfl⟩:=hv;obtain ⟨k',j',h2,_,_,rfl⟩:=hu
  rw [h1] at h2;cases h2;rfl
 | .ref t x off,v,u,h,hv,hu=>by simp [NI] at h
 | .fn f cap,v,u,h,hv,hu=>by
  simp only [ah] at hv hu
  obtain ⟨c,rfl,h1⟩:=hv;obtain ⟨d,rfl,h2⟩:=hu
  rw [aB.det (by simpa [NI] using h) h1 h2]
 | .yld l,v,u,h,hv,hu=>by simp only [ah] at hv hu;rw [hv,hu]
 | .mref n,v,u,h,hv,hu=>by simp only [ah] at hv hu;rw [hv,hu]
 | .mpc k t x,v,u,h,hv,hu=>by simp [NI] at h
 | .agg cs,v,u,h,hv,hu=>by
  simp only [ah] at hv hu
  obtain ⟨c,rfl,h1⟩:=hv;obtain ⟨d,rfl,h2⟩:=hu
  rw [aB.det (by simpa [NI] using h) h1 h2]
 | .mix t x os zs,v,u,h,hv,hu=>by
  simp only [ah] at hv hu
  obtain ⟨a,c,h1,rfl,h3,h4,h5⟩:=hv;obtain ⟨a',c',g1,rfl,g3,g4,g5⟩:=hu
  rw [h1] at g1;cases g1
  have e:c=c':=by
   refine List.ext_getElem? fun i=>?_
   by_cases hi:i<t.size
   ·by_cases ho:i∈os
    ·exact aV.det (by simpa [NI] using h) h4 g4 i ho
    ·rw [h5 i hi ho,g5 i hi ho]
   ·rw [List.getElem?_eq_none (by omega),List.getElem?_eq_none (by omega)]
  rw [e]
 | .tup cs,v,u,h,hv,hu=>by
  simp only [ah] at hv hu
  obtain ⟨c,rfl,h1⟩:=hv;obtain ⟨d,rfl,h2⟩:=hu
  rw [aB.det (by simpa [NI] using h) h1 h2]
 | .kd cs,v,u,h,hv,hu=>by simp only [ah] at hv hu;rw [hv,hu]
 | .gd gs x,v,u,h,hv,hu=>by
  simp only [ah] at hv hu
  obtain ⟨b,h1,h2,h3,h4⟩:=hv;obtain ⟨b',g1,g2,g3,g4⟩:=hu
  rw [h1] at g1;cases g1
  cases b with
  | true=>exact ah.det (by simpa [NI] using h) (h3 rfl) (g3 rfl)
  | false=>rw [h4 rfl,g4 rfl]
 | .vsl n,v,u,h,hv,hu=>by simp only [ah] at hv hu;rw [hv,hu]
 | .vpt n t i inn,v,u,h,hv,hu=>by
  simp only [ah] at hv hu
  obtain ⟨k,j,h1,_,rfl⟩:=hv;obtain ⟨k',j',h2,_,rfl⟩:=hu
  rw [h1] at h2;cases h2;rfl
 | .dead,v,u,h,hv,hu=>by simp only [ah] at hv hu;rw [hv,hu]
theorem aB.det:∀ {xs:List SV} {vs us:List V},Ut xs=true→aB env xs vs→aB env xs us→vs=us
 | [],vs,us,h,hv,hu=>by simp only [aB] at hv hu;rw [hv,hu]
 | x::xs,vs,us,h,hv,hu=>by
  simp only [aB] at hv hu
  simp only [Ut,Bool.and_eq_true] at h
  obtain ⟨v,vs',rfl,h1,h2⟩:=hv;obtain ⟨u,us',rfl,g1,g2⟩:=hu
  rw [ah.det h.1 h1 g1,aB.det h.2 h2 g2]
theorem aV.det:∀ {zs:List SV} {os:List Nat} {c d:List V},Ut zs=true→aV env os zs c→aV env os zs d→∀ i∈os,c[i]? = d[i]?
 | [],os,c,d,h,hc,hd,i,hi=>by simp only [aV] at hc;subst hc;cases hi
 | z::zs,os,c,d,h,hc,hd,i,hi=>by
  simp only [aV] at hc hd
  simp only [Ut,Bool.and_eq_true] at h
  obtain ⟨j,os',rfl,⟨v,h1,h2⟩,h3⟩:=hc
  obtain ⟨j',os'',e,⟨u,g1,g2⟩,g3⟩:=hd
  cases e
  rcases List.mem_cons.1 hi with e | e
  ·subst e;rw [h1,g1,ah.det h.1 h2 g2]
  ·exact aV.det h.2 h3 g3 i e
end
theorem aG.QD {xs:List (Name×SV)} {vs:List (Name×V)} (h:aG env xs vs) {n:Name} {v:V} (hv:aj n vs=some v):∃ x,aj n xs=some x∧ah env x v:=by
 cases hx:aj n xs with
 | none=>rw [(h.look).2 hx] at hv;cases hv
 | some x =>
  obtain ⟨u,h1,h2⟩:=(h.look).1 hx
  rw [h1] at hv;cases hv
  exact ⟨x,rfl,h2⟩
theorem fB.QD {xs:List (Name×Ty×E)} {vs:List (Name×Nat×List D)} (h:fB env xs vs) {n:Name} {v:Nat×List D} (hv:aj n vs=some v):∃ t x,aj n xs=some (t,x)∧∃ a:List t.den,v=(t.size,a.map (bD t))∧x.val env=some ⟨.sl t,a⟩:=by
 cases hx:aj n xs with
 | none=>rw [(h.look).2 hx] at hv;cases hv
 | some x =>
  obtain ⟨t,x⟩:=x
  obtain ⟨a,h2,h1⟩:=(h.look).1 hx
  rw [h1] at hv;cases hv
  exact ⟨t,x,rfl,a,rfl,h2⟩
theorem ji {α:Type} {n:Name} {x:α}:∀ {l:List (Name×α)},aj n l=some x→n∈l.map (·.1)
 | [],h=>by cases h
 | (m,z)::l,h=>by
  simp only [aj] at h
  split at h
  ·rename_i e;rw [List.map_cons];exact List.mem_cons.2 (.inl e.symm)
  ·rw [List.map_cons];exact List.mem_cons_of_mem _ (ji h)
theorem Ko {n:Name} {z:SV} {v:V} (h:Uw n z=true) (hv:ah env z v):∃ o,v = .ptr n o:=by
 cases z <;> simp only [Uw,Bool.false_eq_true,decide_eq_true_eq] at h
 simp only [ah] at hv
 subst h
 exact ⟨_,hv⟩
theorem UH {l:List Val} {ds:List Tmp} {y1 ys:Sy} {s1 sj:Sa} {z:SV} {v:V} (h:XQ ds y1 ys z=true) (hI:Inst env y1 s1) (hJ:Inst (env++l) ys sj) (hv:ah env z v):LK ds s1 sj v:=by
 cases z <;> simp only [XQ,Bool.false_eq_true] at h <;> simp only [ah] at hv
 ·obtain ⟨a,_,rfl⟩:=hv;trivial
 ·subst hv;trivial
 ·subst hv
  rename_i n off
  obtain ⟨x,hx,h⟩:=List.any_eq_true.1 h
  simp only [Bool.and_eq_true,Bool.not_eq_true',List.contains_eq_mem,decide_eq_false_iff_not] at h
  obtain ⟨o,e1⟩:=Ko h.2.1 (hI.ts.lk (t:=x.1))
  obtain ⟨o',e2⟩:=Ko h.2.2 (hJ.ts.lk (t:=x.1))
  exact ⟨x.1,o,o',h.1,e1,e2⟩
 ·obtain ⟨a,cs,_,rfl,_⟩:=hv;trivial
theorem Kq {hb ys:Sy} {hbs sj:Sa} {n:Name} (h:Uu hb ys n=true) (h1:aG env hb.bx hbs.bx) (h2:fB env hb.vc hbs.vc) (hJ:Inst env ys sj) :
  (∀ c,aj n hbs.bx=some c→aj n sj.bx=some c)∧∀ c,aj n hbs.vc=some c→aj n sj.vc=some c:=by
 simp only [Uu,Bool.and_eq_true] at h
 constructor
 ·intro c hc
  obtain ⟨z,h1,h2⟩:=h1.QD hc
  have h3:=h.1
  rw [h1] at h3
  simp only at h3
  split at h3
  ·rename_i u hu
   simp only [Bool.and_eq_true] at h3
   have e:=SV.same_eq _ h3.2
   subst e
   obtain ⟨c',g1,g2⟩:=(hJ.bx.look).1 hu
   rw [g1,ah.det h3.1 g2 h2]
  ·cases h3
 ·intro c hc
  obtain ⟨t,x,h1,a,h2,h4⟩:=h2.QD hc
  have h3:=h.2
  rw [h1] at h3
  simp only at h3
  split at h3
  ·rename_i u e hu
   simp only [Bool.and_eq_true,decide_eq_true_eq] at h3
   obtain ⟨h5,h6⟩:=h3
   subst h5
   have e:=E.same_eq h6
   subst e
   obtain ⟨a',g2,g1⟩:=(hJ.vc.look).1 hu
   rw [h4] at g2
   cases g2
   rw [g1,h2]
  ·cases h3
theorem X3 {l:List Val} {hb:Sy} {l2:List Nat} {d:Option Tmp} {y1 y2 ys:Sy} {s1 hbs sj:Sa} {val:Nat→V} (h:aaS all hb l2 d y1 y2 ys=true) (hI:Inst env y1 s1) (hb1:aG env hb.bx hbs.bx) (hb2:fB env hb.vc hbs.vc) (h2:∀ q∈l2,ah env (VP (aS all q) y2) (val q)) (hJ:Inst (env++l) ys sj) :
  abC all l2 d hbs s1 sj val:=by
 simp only [aaS,Bool.and_eq_true,List.all_eq_true] at h
 obtain ⟨hb,hn,hq⟩:=h
 refine ⟨⟨fun nm c hc=>?_,fun nm c hc=>?_⟩,by rw [hJ.n,hI.n];exact Nat.eq_of_beq_eq_true hn,fun q hq' u hu hno=>?_,fun q hq'=>?_⟩
 ·obtain ⟨z,h1,_⟩:=hb1.QD hc
  exact (Kq (hb nm (List.mem_append_left _ (ji h1))) (hb1.app l) (hb2.app l) hJ).1 c hc
 ·obtain ⟨t,x,h1,_⟩:=hb2.QD hc
  exact (Kq (hb nm (List.mem_append_right _ (ji h1))) (hb1.app l) (hb2.app l) hJ).2 c hc
 ·have h3:=(hq q hq').1 u hu
  simp only [Bool.or_eq_true,Bool.and_eq_true,List.any_eq_true,decide_eq_true_eq] at h3
  rcases h3 with ⟨r,hr,e⟩ | ⟨h4,h5⟩
  ·exact absurd e (hno r hr)
  ·have e:=SV.same_eq _ h5
   have g1:=hI.ts.lk (t:=u)
   have g2:=hJ.ts.lk (t:=u)
   rw [← e] at g2
   exact ah.det h4 g2 (g1.app l)
 ·exact UH (hq q hq').2 hI hJ (h2 q hq')
theorem AZ:∀ (l:List (Nat×SV)) {y:Sy},(yF all y l).lp=y.lp
 | [],y=>rfl
 | x::l,y=>by
  show (yF all (y.put (aS all x.1) x.2) l).lp=_
  rw [AZ l,dG]
theorem A8 {z:Nat→SV} {v:Nat→V}:∀ (l:List Nat) {y:Sy} {s:Sa},Inst env y s→(∀ q∈l,ah env (z q) (v q))→Inst env (yF all y (l.map fun q=>(q,z q))) (aN all s (l.map fun q=>(q,v q)))
 | [],y,s,h,_=>h
 | q::l,y,s,h,hv=>A8 l (h.put (aS all q) (hv q List.mem_cons_self)) fun r hr=>hv r (List.mem_cons_of_mem _ hr)
theorem QE {z:SV} {v:V} (h:AU z=true) (hv:ah env z v):v = .dead:=by
 cases z <;> simp only [AU,Bool.false_eq_true] at h
 exact hv
theorem QF {d:Option Tmp} (h:aG env y.ts s.ts):ah env (VP d y) (lkD d s):=by
 cases d with
 | none=>rfl
 | some t=>exact h.lk
theorem QG {l2:List Nat} (hd:ZK all l2 y=true) (hI:Inst env y s):∀ q∈l2,∀ d,aS all q=some d→lkT d s.ts = .dead:=by
 intro q hq d hdq
 have:=List.all_eq_true.1 hd q hq
 rw [hdq] at this
 exact QE this hI.ts.lk
theorem Snd.abT {C:Cx} {f:FuncId} {l2:List Nat} {hb y2:Sy} {rest:List Seg} {r:Res} (H:Snd C.P p (.plan f all rest) (yF all y (l2.map fun q=>(q,VP (aS all q) y2))) r):Snd C.P p (.bes f all l2 hb y2 [] rest) y r :=
 ⟨fun lf hl=>by rw [H.lp lf hl,AZ],fun env s hI hw hbs s2 k hb1 hb2 h2 hs=>H.go env _ (A8 l2 hI fun q _=>QF h2) hw k hs⟩
theorem Snd.abk {C:Cx} {f:FuncId} {l2 js:List Nat} {j:Nat} {oj:Oper} {hb y2:Sy} {rest:List Seg} {r1 r:Res} {F:Leaf→Nat→Option Res} (hj:all[j]? = some oj) (hd:ZK all l2 y=true) (H1:Snd C.P p (.ops f all [oj]) y r1) (h:kF r1 F=some r)
  (hF:∀ lf c r',F lf c=some r' → aaS all hb l2 oj.dst y y2 lf.s=true∧Snd C.P p (.bes f all l2 hb y2 js rest) lf.s r'):Snd C.P p (.bes f all l2 hb y2 (j::js) rest) y r:=by
 constructor
 ·intro lf' hl
  obtain ⟨lf,g1,c1,r',g2,g3⟩:=jI h lf' hl
  rw [(hF lf c1 r' g2).2.lp _ g3,H1.lp _ g1]
 ·intro env s hI hw hbs s2 k hb1 hb2 h2 hs
  show EM C.P p all l2 hbs _ (j::js) s _
  simp only [EM,hj]
  refine ⟨QG hd hI,H1.go env s hI hw _ ?_⟩
  have hext:=T.uH dI hw (kY h hw hs)
  refine T.aW (fun _ _ h=>h.2) ?_ hext
  rintro i e2 ⟨⟨ext,rfl⟩,hwe2,lf,q1,⟨_,c1,r',g1,g2⟩⟩
  refine ⟨lf,q1,fun sj hsj=>?_⟩
  obtain ⟨k1,k2⟩:=hF lf c1 r' g1
  exact ⟨X3 k1 hI hb1 hb2 (fun q _=>QF h2) hsj,k2.go _ sj hsj hwe2 hbs s2 k (hb1.app ext) (hb2.app ext) (h2.app ext) g2⟩
theorem Snd.X4 {C:Cx} {f:FuncId} {l1 l2 js:List Nat} {rest:List Seg} {bs bs2:Bs} {y1 y2:Sy} {H:List Name} {r:Res} (hd:ZK all l2 y=true) (h1:J4 C p all l1 y=some (bs,y1))
  (h2:J4 C p all l2 (MN H y1)=some (bs2,y2)) (H1:Snd C.P p (.bes f all l2 (MN H y1) y2 js rest) { y1 with g:=y2.g } r):Snd C.P p (.plan f all (.beside l1 l2 js::rest)) y { r with t:=binds (bs++bs2) r.t }:=by
 constructor
 ·intro lf' hl
  rw [H1.lp lf' hl]
  have:=Dv h1
  show lpS y1.lp=lpS y.lp
  rw [this]
 ·intro env s hI hw k hs
  show kT C.P p all (.beside l1 l2 js::rest) s k
  simp only [kT]
  refine ⟨QG hd hI,Dw h1 hI hw ?_⟩
  have h0:=sW hw hs
  rw [qc] at h0
  refine bJ ?_ (qo dI hw h0)
  rintro e ⟨hwe,hq⟩ s1 hs1
  refine ⟨H,Dw h2 hs1.hide hwe (bJ ?_ (jY hq))⟩
  rintro e' ⟨⟨ext,rfl⟩,hwe',hq'⟩ s2 hs2
  exact H1.go (e++ext) s1 ⟨hs2.g,hs1.rd,hs1.n,hs1.ts.app ext,hs1.sv.app ext,hs1.bx.app ext,hs1.lp,hs1.ow,hs1.vc.app ext⟩ hwe' _ s2 k (hs1.hide.bx.app ext) (hs1.hide.vc.app ext) hs2.ts hq'
theorem Snd.abl {C:Cx} {f:FuncId} {l:List Nat} {os:List Oper} {sg:Seg} {rest:List Seg} {bs:Bs} {y1:Sy} {r0 r:Res} {F:Leaf→Nat→Option Res} (h1:J4 C p all l y=some (bs,y1)) (H1:Snd C.P p (.ops f all os) y1 r0) (h:kF r0 F=some r)
  (hF:∀ lf c r',F lf c=some r' → Snd C.P p (.plan f all rest) lf.s r'):Snd C.P p (.plan f all (sg::rest)) y { r with t:=.fail }:=by
 constructor
 ·intro lf' hl
  obtain ⟨lf,g1,c1,r',g2,g3⟩:=jI h lf' hl
  rw [(hF lf c1 r' g2).lp _ g3,H1.lp _ g1,Dv h1]
 ·intro env s hI hw k hs
  exact (show False from hs).elim
end
end Go.Tx
namespace Go.Tx
open Go Go.Ab
section
variable {P:Program} {CS:Calls'} {env:List Val} {y:Sy} {s:Sa} {p:Name}
theorem QH {r r' : Res} (h:RZ r=some r') {base:List (Name×Lp)} (hlp:∀ lf∈r.L,lpS lf.s.lp=lpS base):∀ lf∈r'.L,lpS lf.s.lp=lpS base:=by
 unfold RZ at h
 split at h
 ·cases h
 ·cases h;exact Dt (fun _=>rfl) hlp
theorem wK {r r' : Res} (h:RZ r=some r') {R:Sa→Prop} (hs:r'.t.sat CS noJ (LQ r'.L (iL fun _=>R)) env) :
  r.t.sat CS noJ (LQ r.L (iL fun e s'=>(match e with | .exit _=>False | _=>True)∧R s')) env:=by
 unfold RZ at h
 split at h
 ·cases h
 ·rename_i hn
  cases h
  refine iY ?_ (wJ hs)
  intro lf hlf e hq s' hs'
  refine ⟨?_,hq s' hs'⟩
  cases he:lf.e with
  | exit i=>exact hn (List.any_eq_true.2 ⟨lf,hlf,by rw [he];rfl⟩)
  | norm=>trivial
  | ret=>trivial
theorem Snd.quick {C:Cx} (hsp:GK C.P C.sp) {g:FuncId} {args:List SV} {y1:Sy} {z1:SV} {bs:Bs} {c:Nat} (h:quick C p g args y=some (bs,y1,z1)):Snd C.P p (.call g args) y ⟨binds bs (.hole 0),[⟨.norm,z1,y1⟩],c,[]⟩:=by
 have hlp:y1.lp=y.lp:=by
  unfold Tx.quick at h
  split at h
  ·rename_i sp hs
   cases sp <;> simp only [vI] at h <;> repeat' (split at h)
   all_goals first | (cases h;done) | (cases h;rfl)
  ·split at h
   ·cases h;rfl
   ·cases h
 refine ⟨fun lf hl=>by rw [List.mem_singleton.1 hl];show lpS y1.lp=_;rw [hlp],fun env s hI hw vs k hargs hs=>?_⟩
 show nJ C.P p g vs s k
 have hb:=sW (r:=⟨.hole 0,[⟨.norm,z1,y1⟩],c,[]⟩) hw hs
 unfold Tx.quick at h
 split at h
 ·rename_i sp hsg
  refine Qc (hsp g sp hsg) h hI hargs (bJ ?_ hb)
  rintro e ⟨hwe,hq⟩ s' v hs' hv
  obtain ⟨lf,e1,hq⟩:=hq
  simp only [List.getElem?_cons_zero,Option.some.injEq] at e1
  subst e1
  exact hq s' v hs' hv
 ·split at h
  ·rename_i bs' z hc
   cases h
   unfold PG at hc
   split at hc
   ·rename_i ts r hr
    split at hc
    ·rename_i es hes
     split at hc
     ·rename_i hro
      cases hc
      obtain ⟨us,e1,e2,e3⟩:=wG hes hargs
      obtain ⟨a,r1,r2,r3⟩:=bQ hI.len hb
      obtain ⟨vs',x1,x2⟩:=r1
      rw [e1] at x1;cases x1
      have x2:=x2.1
      rw [if_pos hro.2] at x2
      obtain ⟨hwe,lf,e4,hq⟩:=r2
      simp only [List.getElem?_cons_zero,Option.some.injEq] at e4
      subst e4
      exact pO x2 e3 (hq s _ (hI.snoc _) (Ih hro.1 r3))
     ·cases hc
    ·cases hc
   ·cases hc
  ·cases h
theorem Snd.abm {C:Cx} {g:FuncId} {args:List SV} {i:Name} {u:Ty} {q:E} {r:Res} (h:Qe C g args y=some (i,u,q)) (H:Snd P p (.call g (SV.jk i u q args)) (y.soft i) r):Snd P p (.call g args) y r:=by
 refine ⟨fun lf hl=>by rw [H.lp lf hl,Sy.Ik],fun env s hI hw vs k hargs hs=>?_⟩
 show nJ P p g vs s k
 unfold Qe at h
 split at h
 ·split at h
  ·rename_i u' q' hl
   cases h
   obtain ⟨a,e1,e2⟩:=(hI.vc.look).1 hl
   refine nJ.soft e2 ?_
   exact H.go env _ (hI.soft _) hw _ _ (aB.soft e1 _ hargs) hs
  ·cases h
 ·cases h
theorem Snd.call {g:FuncId} {fn:Func} {cb:Code} {args:List SV} {lc:LC} {lv:Lv} {c0:Nat} {r0 r1 r2 r:Res} {F:Leaf→Nat→Option Res} (hf:P.funcs[g]? = some fn) (hb:fn.body=some cb) (hle:args.length≤fn.ntmps)
  (H:Snd P [c0] (.code g cb lc lv) (y.push fn.ntmps args) r0) (h1:RZ r0=some r1) (h2:fA y.g false r1=some r2) (h:kF r2 F=some r)
  (hF:∀ lf c r3,F lf c=some r3→(lf.s.sv.length=y.sv.length+1∧MO lf.s.lp=MO y.lp)∧∃ vs,resV P lf.s fn.results.toList=some vs∧r3=one .norm (Qo vs) lf.s.pop c):Snd P p (.call g args) y r:=by
 have hl1:=QH h1 H.lp
 have hl2:=gX h2 hl1
 constructor
 ·intro lf' hl
  obtain ⟨lf,k1,c1,r3,k2,k3⟩:=jI h lf' hl
  obtain ⟨_,vs,k4,rfl⟩:=hF lf c1 r3 k2
  rw [lG k3,QA]
  exact hl2 lf k1
 ·intro env s hI hw vs k hargs hs
  show nJ P p g vs s k
  refine vJ [c0] hf hb (by rw [hargs.len];exact hle) (fV ?_)
  refine H.go env _ (hI.push fn.ntmps hargs) hw _ ?_
  have k1:=(gW dI h2 hI.g hw hl1).2 (R:=fun _ s'=>s'.sv.length=s.sv.length+1∧lpD s'.lp=lpD s.lp∧G7 P s' fn.results.toList fun us=>k (iU us) s'.pop) (iY (fun lf hlf e=>?_) (kY h hw hs))
  ·refine iY ?_ (wK h1 k1)
   rintro lf hlf e hq s' hs'
   obtain ⟨e1,s2,w2,e2⟩:=hq s' hs'
   exact ⟨s2,w2,e1,e2⟩
  ·rintro ⟨hwe,c1,r3,e1,e2⟩ s' hs'
   obtain ⟨⟨e3,e4⟩,us,e5,rfl⟩:=hF lf c1 r3 e1
   have e6:=jX e2
   refine ⟨by rw [hs'.sv.len,hI.sv.len];exact e3,by rw [hs'.lp,hI.lp];exact e4,yG e5 hs' fun ws hws=>e6 _ _ hs'.pop (Qv hws)⟩
theorem Snd.yld {l:Name} {q:Lp} {f:SFr} {fo:FuncId} {args:List SV} {lc lc' : LC} {lv lv' : Lv} {c0:Nat} {r1 r:Res} {F:Leaf→Nat→Option Res} (hl:aj l y.lp=some q) (hf:(yD y).reverse[q.depth]? = some f) (hps:q.ps.toList.all (fun t=>decide (t<f.n))=true) (hlen:args.length=q.ps.size)
  (H:Snd P [c0] (.code fo q.assign lc lv) (y.round l f q.ps.toList args) r1) (h:kF r1 F=some r)
  (hF:∀ lf c r3,F lf c=some r3→lf.e = .norm∧∃ q1,aj l lf.s.lp=some q1∧q1.pending=none∧∃ pq r2 r2' G,Snd P pq (.code fo q.body lc' lv') (lf.s.aT l { q1 with pending:=some none }) r2∧fA lf.s.g false r2=some r2' ∧ kF r2' G=some r3 ∧
   ∀ lf c r3,G lf c=some r3→(lf.s.sv.length=y.sv.length+1∧MO lf.s.lp=MO y.lp)∧∃ q2,aj l lf.s.lp=some q2∧r3=one .norm (.e .bool (.bool (Qp lf.e))) (lf.s.aT l { q2 with pending:=jmp lf.e }).pop c):Snd P p (.yld l args) y r:=by
 have hlp2:∀ lf∈r1.L,∀ c r3,F lf c=some r3→∀ q1,aj l lf.s.lp=some q1→lpS (lf.s.aT l { q1 with pending:=some none }).lp=lpS y.lp:=fun lf hm c r3 _ q1 hq1=>by
  rw [show (lf.s.aT l { q1 with pending:=some none }).lp=Ab.cO l { q1 with pending:=some none } lf.s.lp from rfl,Dq (q:=q1) (q':={ q1 with pending:=some none }) ⟨rfl,rfl,rfl,rfl⟩ hq1]
  exact H.lp lf hm
 constructor
 ·intro lf' hl'
  obtain ⟨lf,k1,c1,r3,k2,k3⟩:=jI h lf' hl'
  obtain ⟨e1,q1,e2,e3,pq,r2,r2',G,H2,e4,e5,e6⟩:=hF lf c1 r3 k2
  obtain ⟨lf2,m1,c2,r4,m2,m3⟩:=jI e5 lf' k3
  obtain ⟨_,q2,m4,rfl⟩:=e6 lf2 c2 r4 m2
  rw [lG m3,QA,show (lf2.s.aT l { q2 with pending:=jmp lf2.e }).lp=Ab.cO l { q2 with pending:=jmp lf2.e } lf2.s.lp from rfl,Dq (q:=q2) (q':={ q2 with pending:=jmp lf2.e }) ⟨rfl,rfl,rfl,rfl⟩ m4]
  rw [gX e4 H2.lp lf2 m1]
  exact hlp2 lf k1 c1 r3 k2 q1 e2
 ·intro env s hI hw vs k hargs hs
  show aaI P p l vs s k
  obtain ⟨g,g1,g2,g3⟩:=hI.frame hf
  refine Ir [c0] (by rw [hI.lp];exact hl) g1 (fun t ht=>by rw [g2];simpa using (List.all_eq_true.1 hps) t ht) (by rw [hargs.len];exact hlen) ?_
  refine H.go env _ (hI.round l g2 g3 q.ps.toList hargs) hw _ (iY ?_ (kY h hw hs))
  rintro lf hlf e ⟨hwe,c1,r3,e1,e2⟩ s1 hs1
  obtain ⟨a1,q1,a2,a3,pq,r2,r2',G,H2,a4,a5,a6⟩:=hF lf c1 r3 e1
  have hlS:=H.lp lf hlf
  obtain ⟨q0,b1,b2,b3,b4,b5⟩:=Uy hlS a2
  have:(y.round l f q.ps.toList args).lp=y.lp:=rfl
  rw [this,hl] at b1
  cases b1
  rw [a1]
  simp only [Qd]
  rw [hs1.lp,a2]
  refine ⟨a3,b5.symm,?_⟩
  refine fV (show TC P pq q.body _ _ from H2.go e _ (hs1.aT l _) hwe _ ?_)
  refine (gW dI a4 hs1.g hwe H2.lp).2 (R:=abD l s k) (iY ?_ (kY a5 hwe e2))
  rintro lf2 hlf2 e3 ⟨hwe3,c3,r4,c4,c5⟩ s2 hs2
  obtain ⟨⟨d1,d2⟩,q2,d3,rfl⟩:=a6 lf2 c3 r4 c4
  have d4:=jX c5
  refine ⟨by rw [hs2.sv.len,hI.sv.len];exact d1,by rw [hs2.lp,hI.lp];exact d2,?_⟩
  rw [hs2.lp,d3]
  exact d4 _ _ (hs2.aT l _).pop (by simp only [ah];exact ⟨_,rfl,by rw [dL];cases lf2.e <;> rfl⟩)
theorem VW (hI:Inst env y s):rds s=ZJ y:=by
 have:∀ {xs:List SFr} {vs:List Fr},eY env xs vs→vs.map (·.rd)=xs.map (·.rd):=by
  intro xs
  induction xs with
  | nil=>intro vs h;simp only [eY] at h;simp [h]
  | cons x xs ih=>intro vs h;simp only [eY] at h;obtain ⟨g,l',rfl,h1,_,_,h4⟩:=h;simp [h1,ih h4]
 simp only [rds,ZJ,hI.rd,this hI.sv]
theorem Snd.range {f:FuncId} {g:Operand} {ps:Array Tmp} {a b cb:Code} {lc lcb:LC} {lv lvb:Lv} {l:Name} {gf:FuncId} {cap:List SV} {fn:Func} {c0:Nat} {r0 r1 r2 r:Res} {F:Leaf→Nat→Option Res} (hg:y.get g=some (.fn gf cap)) (hrd:XL y=true) (hrs:some l ∉ ZJ y) (hl:aj l y.lp=none) (hy:y.jC l=false) (hyc:SV.jv l cap=false)
  (hcal:callable P gf=true) (hf:P.funcs[gf]? = some fn) (hb:fn.body=some cb) (hle:(SV.yld l::cap).length≤fn.ntmps) (hres:fn.results = #[]) (H:Snd P [c0] (.code gf cb lcb lvb) (y.dU l fn.ntmps (.yld l::cap) ⟨y.sv.length,ps,a,b,none⟩) r0)
  (h1:RZ r0=some r1) (h2:fA y.g false r1=some r2) (h:kF r2 F=some r)
  (hF:∀ lf c r3,F lf c=some r3→(lf.s.sv.length=y.sv.length+1∧MO lf.s.lp=(l,y.sv.length)::MO y.lp)∧∃ nm q ql,lf.s.lp=(nm,q)::ql∧∃ e,r3=one e .dead (lf.s.aX y.rd) c∧((q.pending=none∧e = .norm)∨(∃ i,q.pending=some (some (.exit i))∧e = .exit i)∨(q.pending=some (some .ret)∧e = .ret))) :
  Snd P p (.code f (.rangeFunc g ps a b) lc lv) y r:=by
 have hl1:=QH h1 H.lp
 have hl2:=gX h2 hl1
 constructor
 ·intro lf' hl'
  obtain ⟨lf,k1,c1,r3,k2,k3⟩:=jI h lf' hl'
  obtain ⟨⟨k4,_⟩,nm,q,ql,k5,e,rfl,_⟩:=hF lf c1 r3 k2
  rw [lG k3]
  show lpS (lf.s.aX y.rd).lp=lpS y.lp
  rw [FU k5 (by intro e;rw [e] at k4;simp at k4)]
  have:=hl2 lf k1
  rw [k5] at this
  simp only [Sy.dU,lpS,List.map_cons,List.cons.injEq] at this
  exact this.2
 ·intro env s hI hw R hs
  have hgv:=hI.get hg
  simp only [ah] at hgv
  obtain ⟨cv,e1,e2⟩:=hgv
  have hrd' : s.rd=none∨∃ l0 q0,s.rd=some l0∧aj l0 s.lp=some q0∧some l0∈s.sv.map (·.rd):=by
   rw [hI.rd,hI.lp]
   unfold XL at hrd
   split at hrd
   ·rename_i e;exact .inl e
   ·rename_i l0 e
    simp only [Bool.and_eq_true,List.contains_eq_mem,decide_eq_true_eq] at hrd
    obtain ⟨q0,hq0⟩:=Option.isSome_iff_exists.1 hrd.1
    refine .inr ⟨l0,q0,e,hq0,?_⟩
    have hrr:=VW hI
    simp only [rds,ZJ,List.cons.injEq] at hrr
    rw [hrr.2];exact hrd.2
  refine Dl l [c0] hrd' (by rw [VW hI];exact hrs) (by rw [hI.lp];exact hl) (hI.jC hy) e1 (e2.jC l hyc) hcal hf hb (by simp only [List.length_cons] at hle ⊢; rw [e2.len];exact hle) (fV ?_)
  have hargs:aB env (.yld l::cap) (.yld l::cv):=⟨_,_,rfl,rfl,e2⟩
  rw [hI.sv.len]
  refine H.go env _ (hI.dU l fn.ntmps hargs _) hw _ ?_
  have k1:=(gW dI h2 hI.g hw hl1).2 (R:=fun _ s'=>s'.sv.length=s.sv.length+1∧lpD s'.lp=(l,s.sv.length)::lpD s.lp∧match s'.lp with
   | (_,q)::_=>match q.pending with
    | none=>R .norm (s'.aX s.rd)
    | some none=>False
    | some (some c)=>ev P (pJ P) [c0] c (s'.aX s.rd) R
   | []=>False) (iY (fun lf hlf e=>?_) (kY h hw hs))
  ·refine iY ?_ (wK h1 k1)
   rintro lf hlf e hq s' hs'
   obtain ⟨e1,s2,w2,e2,e3,e4⟩:=hq s' hs'
   refine ⟨s2,w2,e1,e2,e3,?_⟩
   rw [hres]
   exact e4
  ·rintro ⟨hwe,c1,r3,g1,g2⟩ s' hs'
   obtain ⟨⟨d1,d2⟩,nm,q,ql,d3,ex,rfl,d4⟩:=hF lf c1 r3 g1
   have d5:=jX g2 _ (hs'.aX y.rd)
   rw [← hI.rd] at d5
   refine ⟨by rw [hs'.sv.len,hI.sv.len];exact d1,by rw [hs'.lp,hI.lp,hI.sv.len];exact d2,?_⟩
   rw [hs'.lp,d3]
   simp only
   rcases d4 with ⟨d6,rfl⟩ | ⟨i,d6,rfl⟩ | ⟨d6,rfl⟩
   ·rw [d6];exact d5
   ·rw [d6];exact d5
   ·rw [d6];exact d5
end
end Go.Tx
