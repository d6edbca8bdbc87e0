import Derived.RangeFuncLeaves
import Derived.RangeFuncRecord
import Derived.OrdersIn
import Derived.Below
import Derived.KernelRfl
import Derived.Laws.StructEq
import Derived.ChangeKeysEq
import Derived.Laws.Cover3
set_option linter.all false
namespace Go.Ab
open Go
abbrev Name:=List Nat
inductive D where
 | v (x:Value)
 | agg (cs:List D)
 | sl (xs:List D)
 deriving Inhabited
def D.cells:D→List D
 | .agg cs=>cs
 | x=>[x]
abbrev D.i (n:Int):D:=.v (.int .i64 n)
abbrev D.u (n:Int):D:=.v (.int .u64 n)
abbrev D.b (b:Bool):D:=.v (.bool b)
inductive V where
 | d (x:D)
 | nil
 | own (id:Name) (sz:Nat) (xs:List D)
 | ptr (n:Name) (off:Nat)
 | ref (cs:List D)
 | fn (f:FuncId) (cap:List V)
 | yld (l:Name)
 | mref (n:Name)
 | mpc (kd:IntKind) (kvs:List (Int×Value))
 | agg (cs:List V)
 | tup (vs:List V)
 | vsl (n:Name)
 | vpt (n:Name) (off:Nat)
 | dead
 deriving Inhabited
def V.cells:V→List V
 | .agg cs=>cs
 | .d (.agg cs)=>cs.map .d
 | .mpc _ _=>[]
 | x=>[x]
def fnB:Nat:=5000
def fnV (f:FuncId) (vs:Array Value):Value:=if f<fnB then .func (.func f) #[] vs else .func (.func (f - fnB)) vs #[]
def isCells:V→Bool
 | .dead=>false
 | .tup _=>false
 | .mpc _ _=>false
 | _=>true
def V.isMpc:V→Bool
 | .mpc _ _=>true
 | _=>false
def toDs (f:V→Option D):List V→Option (List D)
 | []=>some []
 | v::vs=>match f v,toDs f vs with | some x,some xs=>some (x::xs) | _,_=>none
def V.toD1:V→Option D
 | .d x=>some x
 | .nil=>some (.sl [])
 | .own _ _ xs=>some (.sl xs)
 | _=>none
def V.toD:V→Option D
 | .agg cs=>(toDs V.toD1 cs).map .agg
 | x=>x.toD1
structure Fr where
 rd:Option Name
 n:Nat
 ts:List (Nat×V)
structure Lp where
 depth:Nat
 ps:Array Tmp
 assign:Code
 body:Code
 pending:Option (Option Code)
def lkT (t:Nat):List (Nat×V)→V
 | []=>.dead
 | (s,v)::l=>if s=t then v else lkT t l
def lookN {α:Type} (n:Name):List (Name×α)→Option α
 | []=>none
 | (s,v)::l=>if s=n then some v else lookN n l
def setN {α:Type} (n:Name) (x:α):List (Name×α)→List (Name×α)
 | []=>[]
 | (s,v)::l=>if s=n then (s,x)::l else (s,v)::setN n x l
def setT (t:Nat) (x:V):List (Nat×V)→List (Nat×V)
 | []=>[(t,x)]
 | (s,v)::l=>if s=t then (s,x)::l else (s,v)::setT t x l
def inR (k:IntKind) (n:Int):Bool :=
 match k with
 | .i8=>decide (-128≤n∧n≤127)
 | .i16=>decide (-32768≤n∧n≤32767)
 | .i32=>decide (-2147483648≤n∧n≤2147483647)
 | .i64=>decide (-9223372036854775808≤n∧n≤9223372036854775807)
 | .u8=>decide (0≤n∧n≤255)
 | .u16=>decide (0≤n∧n≤65535)
 | .u32=>decide (0≤n∧n≤4294967295)
 | .u64=>decide (0≤n∧n≤18446744073709551615)
def scalar:Value→Bool
 | .bool _ | .nilFunc=>true
 | .nilIface=>true
 | .pointer a=>a.isNone
 | .map r=>r.isNone
 | .int k n=>inR k n
 | .string s=>decide (s.size≤9223372036854775807)
 | .func (.func _) a b=>a.isEmpty&&b.isEmpty
 | _=>false
def constD:Value→D
 | .slice none 0 0=>.sl []
 | v=>.v v
def constV:Value→V
 | .slice none 0 0=>.nil
 | .agg cs=>if cs.all (fun c=>scalar c || (match c with | .slice none 0 0=>true | _=>false)) then .d (.agg (cs.toList.map constD)) else .dead
 | v=>if scalar v then .d (.v v) else .dead
def Fr.get (f:Fr):Operand→V
 | .tmp t=>lkT t f.ts
 | .const v=>constV v
 | .global _=>.dead
 | .func g=>.d (.v (.func (.func g) #[] #[]))
def tsz (P:Program) (t:TypeId):Nat:=((P.info? t).map (·.size)).getD 0
def tbytes (P:Program) (t:TypeId):Nat:=((P.info? t).map (·.bytes)).getD 0
def tagg (P:Program) (t:TypeId):Option Bool:=match P.underlying t with | some (.struct _) | some (.array _ _)=>some true | some _=>some false | none=>none
def tfield (P:Program) (t:TypeId) (i:Nat):Option (Nat×TypeId):=match P.underlying t with | some (.struct fs)=>(fs[i]?).map fun f=>(f.offset,f.type) | _=>none
def telem (P:Program) (t:TypeId):Option TypeId:=match P.underlying t with | some (.slice e)=>some e | _=>none
def tarr (P:Program) (t:TypeId):Option (Nat×TypeId):=match P.underlying t with | some (.array n e)=>some (n,e) | _=>none
def tzero (P:Program) (t:TypeId):V:=match (P.info? t).bind (·.zero) with | some v=>constV v | none=>.dead
def CaseB (b:Bool) (p q:Prop):Prop:=(b=true→p)∧(b=false→q)
@[simp] theorem caseB_true (p q:Prop):CaseB true p q=p:=by simp [CaseB]
@[simp] theorem caseB_false (p q:Prop):CaseB false p q=q:=by simp [CaseB]
def cmpInt (op:BinOp) (a b:Int):Option Bool :=
 match op with
 | .eql=>some (a==b)
 | .neq=>some (a != b)
 | .lss=>some (decide (a<b))
 | .leq=>some (decide (a≤b))
 | .gtr=>some (decide (a>b))
 | .geq=>some (decide (a≥b))
 | _=>none
def andI (k:IntKind) (a b:Int):Int:=k.wrap (BitVec.ofInt k.bits a &&& BitVec.ofInt k.bits b).toNat
def orI (k:IntKind) (a b:Int):Int:=k.wrap (BitVec.ofInt k.bits a ||| BitVec.ofInt k.bits b).toNat
def xorI (k:IntKind) (a b:Int):Int:=k.wrap (BitVec.ofInt k.bits a ^^^ BitVec.ofInt k.bits b).toNat
def andNotI (k:IntKind) (a b:Int):Int:=k.wrap (BitVec.ofInt k.bits a &&& ~~~ BitVec.ofInt k.bits b).toNat
def arith (op:BinOp) (k:IntKind) (a b:Int):Option Int :=
 match op with
 | .add=>some (k.wrap (a+b))
 | .sub=>some (k.wrap (a - b))
 | .mul=>some (k.wrap (a * b))
 | .and=>some (andI k a b)
 | .or=>some (orI k a b)
 | .xor=>some (xorI k a b)
 | .andNot=>some (andNotI k a b)
 | _=>none
def binV (P:Program) (t:TypeId) (op:BinOp) (x y:Value) (k:V→Prop):Prop :=
 match x,y with
 | .int p a,.int q b =>
  match op with
  | .shl=>0≤b∧k (.d (.v (.int p (p.wrap (a * 2 ^ (min b.toNat p.bits))))))
  | .shr=>0≤b∧k (.d (.v (.int p (a.fdiv (2 ^ (min b.toNat p.bits))))))
  | .quo=>p=q∧b≠0∧k (.d (.v (.int p (p.wrap (a.tdiv b)))))
  | .rem=>p=q∧b≠0∧k (.d (.v (.int p (a.tmod b))))
  | _=>p=q∧match cmpInt op a b with
   | some r=>k (.d (.v (.bool r)))
   | none=>match arith op p a b with
    | some r=>k (.d (.v (.int p r)))
    | none=>False
 | .bool a,.bool b =>
  P.underlying t=some .bool∧match op with
  | .eql=>k (.d (.v (.bool (a==b))))
  | .neq=>k (.d (.v (.bool (!(a==b)))))
  | _=>False
 | .string a,.string b =>
  match op with
  | .eql=>k (.d (.v (.bool (a.toList==b.toList))))
  | .neq=>k (.d (.v (.bool !(a.toList==b.toList))))
  | _=>False
 | _,_=>False
def unV (op:UnOp) (x:Value) (k:V→Prop):Prop :=
 match op,x with
 | .not,.bool b=>k (.d (.v (.bool !b)))
 | .neg,.int p n=>k (.d (.v (.int p (p.wrap (0 - n)))))
 | _,_=>False
def tplace (P:Program) (t:TypeId) (i:Nat):Option (Nat×Nat) :=
 match P.underlying t with
 | some (.struct fs)=>(fs[i]?).map fun f=>(f.offset,tsz P f.type)
 | some (.array _ e)=>some (i * tsz P e,tsz P e)
 | _=>none
def tbuild (P:Program) (t:TypeId):Bool :=
 match P.underlying t with
 | some (.struct fs)=>fs.toList.all fun f=>(P.info? f.type).isSome
 | some (.array _ e)=>(P.info? e).isSome
 | _=>false
def fillV (place:Nat→Option (Nat×Nat)) (cells:List V):List (Nat×V)→Option (List V)
 | []=>some cells
 | (i,v)::rest=>match place i with
  | none=>none
  | some (off,sz)=>if isCells v=true∧v.cells.length=sz∧off+sz≤cells.length then fillV place (cells.take off++v.cells++cells.drop (off+sz)) rest else none
def kindB (P:Program) (t:TypeId):Option Bool:=match P.underlying t with | some .bool=>some true | some (.int _)=>some false | _=>none
def kindsFs (P:Program):Nat→List Field→Option (List Bool)
 | _,[]=>some []
 | i,f::fs=>if f.name ≠ "_" ∧ f.offset=i then match kindB P f.type,kindsFs P (i+1) fs with | some b,some bs=>some (b::bs) | _,_=>none else none
def kindsF2 (P:Program):Nat→List Field→Option (List Bool)
 | _,[]=>some []
 | i,f::fs=>if f.name ≠ "_" ∧ f.offset=i then match kindB P f.type with
   | some b=>(match kindsF2 P (i+1) fs with | some bs=>some (b::bs) | none=>none)
   | none=>match P.underlying f.type with
    | some (.struct gs)=>if P.stoodInHeld f.type=true∨tsz P f.type≠gs.size then none else match kindsFs P 0 gs.toList,kindsF2 P (i+gs.size) fs with | some ks,some bs=>some (ks++bs) | _,_=>none
    | _=>none
  else none
def flatKinds (P:Program) (t:TypeId):Option (List Bool) :=
 if P.eqGuardType P.depth t then none else match P.underlying t with
 | some (.struct fs)=>if P.stoodInHeld t then none else kindsF2 P 0 fs.toList
 | some (.array n e)=>if tsz P e=1 then (kindB P e).map (List.replicate n ·) else none
 | _=>none
def eqDs:List Bool→List D→List D→Option Bool
 | [],_,_=>some true
 | true::ks,.v (.bool a)::xs,.v (.bool b)::ys=>match eqDs ks xs ys with | some r=>some (a==b&&r) | none=>none
 | false::ks,.v (.int p a)::xs,.v (.int q b)::ys=>if p=q then match eqDs ks xs ys with | some r=>some (a==b&&r) | none=>none else none
 | _,_,_=>none
def V.asD:V→Option D
 | .d x=>some x
 | .nil=>some (.sl [])
 | _=>none
def mkAgg (cs:List V):V:=match toDs V.toD1 cs with | some ds=>.d (.agg ds) | none=>.agg cs
def mkAggB (cs:List V):V:=match toDs V.asD cs with | some ds=>.d (.agg ds) | none=>.agg cs
def takeD (agg:Bool) (sz:Nat) (cs:List D):V :=
 if agg then (if cs.length=sz then .d (.agg cs) else .d (.agg (cs.take sz))) else match cs with | c::_=>.d c | []=>.dead
def loadBox (agg:Bool) (off sz:Nat) (c:V):V :=
 match agg,c with
 | true,.d (.agg ds)=>if off=0∧ds.length=sz then .d (.agg ds) else .d (.agg ((ds.drop off).take sz))
 | false,.d (.agg ds)=>((ds[off]?).map V.d).getD .dead
 | true,c=>mkAgg ((c.cells.drop off).take sz)
 | false,c=>(c.cells[off]?).getD .dead
def flatD (xs:List D):List D:=xs.flatMap D.cells
def setE (sz off:Nat) (d:D) (xs:List D):List D:=match xs[off / sz]? with
 | some e=>if off % sz=0∧d.cells.length=e.cells.length then xs.set (off / sz) d else xs.set (off / sz) (.agg (e.cells.take (off % sz)++d.cells++e.cells.drop (off % sz+d.cells.length)))
 | none=>xs
def storeBox (off:Nat) (x c:V):V :=
 if off=0∧x.cells.length=c.cells.length then x
 else match x,c with
  | .d d,.d (.agg ds)=>.d (.agg (ds.take off++d.cells++ds.drop (off+d.cells.length)))
  | _,_=>mkAggB (c.cells.take off++x.cells++c.cells.drop (off+x.cells.length))
end Go.Ab
namespace Go.Ab
open Go
mutual
def V.refs (n:Name):V→Bool
 | .ptr m _=>m==n
 | .mref m=>m==n
 | .fn _ c=>V.refsL n c
 | .agg c=>V.refsL n c
 | .tup c=>V.refsL n c
 | _=>false
def V.refsL (n:Name):List V→Bool
 | []=>false
 | v::vs=>v.refs n || V.refsL n vs
end
mutual
def V.strip (i:Name):V→V
 | .own j sz xs=>if j=i then .d (.sl xs) else .own j sz xs
 | .fn f c=>.fn f (V.stripL i c)
 | .agg c=>.agg (V.stripL i c)
 | .tup c=>.tup (V.stripL i c)
 | .d x=>.d x
 | .nil=>.nil
 | .ptr n o=>.ptr n o
 | .ref c=>.ref c
 | .yld l=>.yld l
 | .mref n=>.mref n
 | .mpc k l=>.mpc k l
 | .vsl n=>if n=i then .dead else .vsl n
 | .vpt n o=>if n=i then .dead else .vpt n o
 | .dead=>.dead
def V.stripL (i:Name):List V→List V
 | []=>[]
 | v::vs=>v.strip i::V.stripL i vs
end
structure Sa where
 rd:Option Name
 n:Nat
 ts:List (Nat×V)
 sv:List Fr
 bx:List (Name×V)
 lp:List (Name×Lp)
 ow:List Name
 vc:List (Name×Nat×List D)
def Sa.get (s:Sa):Operand→V
 | .tmp t=>lkT t s.ts
 | .const v=>constV v
 | .global _=>.dead
 | .func g=>.d (.v (.func (.func g) #[] #[]))
def Sa.put (s:Sa):Option Tmp→V→Sa
 | none,_=>s
 | some d,v=>{ s with ts:=setT d v s.ts }
def mapT (f:V→V) (l:List (Nat×V)):List (Nat×V):=l.map fun x=>(x.1,f x.2)
def Sa.strip (s:Sa) (i:Name):Sa :=
 { s with ts:=mapT (V.strip i) s.ts,sv:=s.sv.map (fun f=>{ f with ts:=mapT (V.strip i) f.ts }),bx:=s.bx.map (fun x=>(x.1,x.2.strip i)),ow:=s.ow.filter (fun j=>j != i),vc:=s.vc.filter (fun x=>x.1 != i) }
def rds (s:Sa):List (Option Name):=s.rd::s.sv.map (·.rd)
def isH:Name→Bool
 | _::_::_::_=>true
 | _=>false
def decH:Name→List Name
 | _::c::t::ts=>(t::ts).map fun t=>[t,c]
 | _=>[]
def protd (rs:List (Option Name)) (n:Name):Bool:=rs.any fun r=>match r with
 | some h=>(decH h).contains n
 | none=>false
def Sa.refs (s:Sa) (n:Name):Bool :=
 protd (rds s) n || (  s.ts.any (fun x=>x.2.refs n) || s.sv.any (fun f=>f.ts.any (fun x=>x.2.refs n)) || s.bx.any (fun x=>x.2.refs n))
def Sa.claim (s:Sa) (i:Name) (sz:Option Nat) (v:V):V×Sa :=
 match v,sz with
 | .nil,some z=>(.own i z [],{ s.strip i with ow:=i::(s.strip i).ow })
 | v,_=>(v,s)
def esz (P:Program) (t:TypeId):Option Nat:=(telem P t).map (tsz P)
inductive Ex where
 | norm | exit (id:Nat) | ret | thr (t:TypeId)
structure Sems where
 thr:TypeId→V→Sa→Prop
 call:Name→FuncId→List V→Sa→(V→Sa→Prop)→Prop
 yld:Name→Name→List V→Sa→(V→Sa→Prop)→Prop
 code:Name→Code→Sa→(Ex→Sa→Prop)→Prop
def intOfV:V→Option Int
 | .d (.v (.int _ n))=>some n
 | _=>none
def sliceOf:V→Option (List D)
 | .d (.sl xs)=>some xs
 | .own _ _ xs=>some xs
 | .nil=>some []
 | _=>none
def V.isStr:V→Bool
 | .d (.agg _)=>true
 | .agg _=>true
 | _=>false
def callable (P:Program) (g:FuncId):Bool:=match P.funcs[g]? with | some fn=>fn.body.isSome&&fn.name != "runtime.NumGoroutine" && Nat.blt g fnB | none=>false
def tmapk (P:Program) (t:TypeId):Option IntKind:=match P.underlying t with | some (.map kt _)=>(match P.underlying kt with | some (.int kd)=>some kd | _=>none) | _=>none
def tmape (P:Program) (t:TypeId):Option TypeId:=match P.underlying t with | some (.map _ et)=>some et | _=>none
def getKV (a:Int):List (Int×Value)→Option Value
 | []=>none
 | (b,c)::l=>if a=b then some c else getKV a l
def putKV (a:Int) (c:Value):List (Int×Value)→List (Int×Value)
 | []=>[(a,c)]
 | (b,e)::l=>if a=b then (a,c)::l else (b,e)::putKV a c l
def nilC (v:Value) (x:V):V:=match v,x with
 | .slice none 0 0,.d (.sl [])=>.nil
 | _,x=>x
def nilCs:List Value→List V→List V
 | v::vs,x::xs=>nilC v x::nilCs vs xs
 | _,xs=>xs
def zvals (P:Program) (t:TypeId):List Value:=match (P.info? t).bind (·.zero) with
 | some z=>z.cells.toList
 | none=>[]
def zcells (P:Program) (t:TypeId):List V:=nilCs (zvals P t) (tzero P t).cells
theorem nilCs_len:∀ (vs:List Value) (xs:List V),(nilCs vs xs).length=xs.length
 | [],xs=>by cases xs <;> rfl
 | v::vs,[]=>rfl
 | v::vs,x::xs=>by simp only [nilCs,List.length_cons,nilCs_len vs xs]
theorem nilC_or (v:Value) (x:V):(nilC v x = .nil∧v = .slice none 0 0∧x = .d (.sl []))∨nilC v x=x:=by
 unfold nilC
 split
 ·exact .inl ⟨rfl,rfl,rfl⟩
 ·exact .inr rfl
theorem nilCs_get:∀ (vs:List Value) (xs:List V) (i:Nat),(nilCs vs xs)[i]? = xs[i]?∨((nilCs vs xs)[i]? = some .nil∧vs[i]? = some (.slice none 0 0)∧xs[i]? = some (.d (.sl [])))
 | [],xs,i=>by cases xs <;> exact .inl rfl
 | v::vs,[],i=>.inl rfl
 | v::vs,x::xs,0=>by
  simp only [nilCs,List.getElem?_cons_zero,Option.some.injEq]
  rcases nilC_or v x with h | h
  ·exact .inr h
  ·exact .inl h
 | v::vs,x::xs,i+1=>by simpa only [nilCs,List.getElem?_cons_succ] using nilCs_get vs xs i
theorem nilCs_toDs:∀ (vs:List Value) (ds:List D),toDs V.toD1 (nilCs vs (ds.map .d))=some ds
 | [],ds=>by
  have:∀ ds:List D,toDs V.toD1 (ds.map V.d)=some ds:=fun ds=>by
   induction ds with
   | nil=>rfl
   | cons d ds ih=>simp [toDs,ih,V.toD1]
  cases ds <;> exact this _
 | v::vs,[]=>rfl
 | v::vs,d::ds=>by
  have h:=nilCs_toDs vs ds
  have e:(nilC v (.d d)).toD1=some d:=by
   rcases nilC_or v (.d d) with ⟨h1,_,h2⟩ | h1
   ·rw [h1];cases h2;rfl
   ·rw [h1];rfl
  simp only [List.map_cons,nilCs,toDs,h,e]
def slicedV (v:V) (hi:Option Operand) (sz:Nat) (ys:List D):V:=match v,hi with
 | .own i z _,none=>if z=sz then .own i z ys else .d (.sl ys)
 | _,_=>.d (.sl ys)
def evOp (P:Program) (S:Sems) (p:Name) (o:Oper) (s:Sa) (k:Sa→Prop):Prop :=
 let dst:=o.dst
 let d:=dst.getD 0
 match o.op with
 | .move x=>k (s.put dst (s.get x))
 | .assign x=>k ((s.claim (d::p) (esz P o.type) (s.get x)).2.put dst (s.claim (d::p) (esz P o.type) (s.get x)).1)
 | .pick c a b=>match s.get c with
  | .d (.v (.bool t))=>CaseB t (k (s.put dst (s.get a))) (k (s.put dst (s.get b)))
  | _=>False
 | .alloc t =>
  let r:=s.claim (1000000::d::p) (esz P t) (tzero P t)
  (tzero P t).cells.length=tsz P t∧isCells (tzero P t)=true∧s.refs (d::p)=false∧lookN (d::p) s.bx=none∧k ({ r.2 with bx:=(d::p,r.1)::r.2.bx }.put dst (.ptr (d::p) 0))
 | .box t x =>
  let r:=s.claim (1000000::d::p) (esz P t) (s.get x)
  isCells (s.get x)=true∧s.refs (d::p)=false∧lookN (d::p) s.bx=none∧k ({ r.2 with bx:=(d::p,r.1)::r.2.bx }.put dst (.ptr (d::p) 0))
 | .build t parts =>
  tbuild P t=true∧isCells (tzero P t)=true∧match fillV (tplace P t) (zcells P t) (parts.toList.map fun x=>(x.1,s.get x.2)) with
  | some cs=>k (s.put dst (mkAgg cs))
  | none=>False
 | .buildSlice t len parts =>
  match telem P t with
  | some e=>tsz P e≠0∧isCells (tzero P e)=true∧len * tsz P e≤16777216∧parts.toList.map (·.1)=List.range len ∧
   match toDs V.toD (parts.toList.map fun x=>s.get x.2) with
   | some xs=>(∀ x∈xs,x.cells.length=tsz P e)∧if len=0 then k ((s.claim (d::p) (some (tsz P e)) .nil).2.put dst (s.claim (d::p) (some (tsz P e)) .nil).1) else k (s.put dst (.d (.sl xs)))
   | none=>False
  | none=>False
 | .load t a=>match tagg P t with
  | some ag=>(ag=false→tsz P t≠0)∧match s.get a with
   | .ptr n off=>match lookN n s.bx with
    | some c=>off+tsz P t≤c.cells.length∧k (s.put dst (loadBox ag off (tsz P t) c))
    | none=>False
   | .ref cs=>tsz P t≤cs.length∧k (s.put dst (takeD ag (tsz P t) cs))
   | .vpt n off=>match lookN n s.vc with
    | some c=>tsz P t≤((flatD c.2).drop off).length∧k (s.put dst (takeD ag (tsz P t) ((flatD c.2).drop off)))
    | none=>False
   | _=>False
  | none=>False
 | .store t a x=>match s.get a with
  | .ptr n off=>match lookN n s.bx with
   | some _ =>
    let r:=s.claim ((1000000+off)::n) (esz P t) (s.get x)
    match lookN n r.2.bx with
    | some c=>isCells (s.get x)=true∧tsz P t≠0∧r.1.cells.length=tsz P t∧off+tsz P t≤c.cells.length∧k ({ r.2 with bx:=setN n (storeBox off r.1 c) r.2.bx }.put dst .dead)
    | none=>False
   | none=>False
  | .vpt n off=>match lookN n s.vc,(s.get x).toD with
   | some c,some d=>tsz P t≠0∧isCells (s.get x)=true∧d.cells.length=tsz P t∧off % c.1+tsz P t≤c.1∧off / c.1<c.2.length∧k ({ s with vc:=setN n (c.1,setE c.1 off d c.2) s.vc }.put dst .dead)
   | _,_=>False
  | _=>False
 | .nilCheck x=>match s.get x with
  | .ptr n off=>k (s.put dst (.ptr n off))
  | .ref cs=>k (s.put dst (.ref cs))
  | .vpt n off=>k (s.put dst (.vpt n off))
  | _=>False
 | .binOp op t x y _=>match s.get y with
  | .d (.v b)=>match s.get x with
   | .d (.v a)=>binV P t op a b fun v=>k (s.put dst v)
   | _=>False
  | .d (.agg ys)=>match s.get x with
   | .d (.agg xs)=>match flatKinds P t with
    | some ks=>match eqDs ks xs ys with
     | some r=>match op with
      | .eql=>k (s.put dst (.d (.v (.bool r))))
      | .neq=>k (s.put dst (.d (.v (.bool !r))))
      | _=>False
     | none=>False
    | none=>False
   | _=>False
  | .nil=>match telem P t with
   | some _=>match s.get x with
    | .nil=>match op with
     | .eql=>k (s.put dst (.d (.v (.bool true))))
     | .neq=>k (s.put dst (.d (.v (.bool false))))
     | _=>False
    | .d (.sl xs)=>match op with
     | .eql=>(xs=[]→k (s.put dst (.d (.v (.bool true)))))∧k (s.put dst (.d (.v (.bool false))))
     | .neq=>(xs=[]→k (s.put dst (.d (.v (.bool false)))))∧k (s.put dst (.d (.v (.bool true))))
     | _=>False
    | .own _ _ xs=>match op with
     | .eql=>(xs=[]→k (s.put dst (.d (.v (.bool true)))))∧k (s.put dst (.d (.v (.bool false))))
     | .neq=>(xs=[]→k (s.put dst (.d (.v (.bool false)))))∧k (s.put dst (.d (.v (.bool true))))
     | _=>False
    | _=>False
   | none=>False
  | _=>False
 | .unOp op _ x=>match s.get x with
  | .d (.v a)=>unV op a fun v=>k (s.put dst v)
  | _=>False
 | .convert src t x=>match P.underlying t,s.get x with
  | some (.int kd),.d (.v (.int _ n))=>(P.underlying src).isSome=true∧k (s.put dst (.d (.v (.int kd (kd.wrap n)))))
  | _,_=>False
 | .makeFunc (.func f) first cap=>f<fnB∧if first = #[] then k (s.put dst (.fn f (cap.toList.map s.get))) else cap = #[]∧k (s.put dst (.fn (f+fnB) (first.toList.map s.get)))
 | .fieldAddr t x i=>match tfield P t i with
  | some (off,ft)=>tsz P ft≠0∧match s.get x with
   | .ptr n o=>k (s.put dst (.ptr n (o+off)))
   | .ref cs=>k (s.put dst (.ref (cs.drop off)))
   | .vpt n o=>k (s.put dst (.vpt n (o+off)))
   | _=>False
  | none=>False
 | .field t x i=>match tfield P t i with
  | some (off,ft)=>match tagg P ft with
   | some ag=>(ag=false→tsz P ft≠0)∧off+tsz P ft≤(s.get x).cells.length∧(s.get x).isStr=true∧k (s.put dst (loadBox ag off (tsz P ft) (s.get x)))
   | none=>False
  | none=>False
 | .indexAddr t x ix=>match intOfV (s.get ix) with
  | some i=>match telem P t with
   | some e=>match sliceOf (s.get x) with
    | some xs=>tsz P e≠0∧0≤i∧i<xs.length∧∀ x,xs[i.toNat]? = some x→x.cells.length=tsz P e∧k (s.put dst (.ref x.cells))
    | none=>match s.get x with
     | .vsl n=>match lookN n s.vc with
      | some c=>tsz P e≠0∧c.1=tsz P e∧0≤i∧i<c.2.length∧k (s.put dst (.vpt n (i.toNat * tsz P e)))
      | none=>False
     | _=>False
   | none=>match tarr P t with
    | some (n,e)=>tsz P e≠0∧0≤i∧i<n∧2≤n∧match s.get x with
     | .ptr b o=>k (s.put dst (.ptr b (o+i.toNat * tsz P e)))
     | .ref cs=>k (s.put dst (.ref (cs.drop (i.toNat * tsz P e))))
     | .vpt b o=>k (s.put dst (.vpt b (o+i.toNat * tsz P e)))
     | _=>False
    | none=>False
  | none=>False
 | .index t x ix=>match intOfV (s.get ix) with
  | some i=>match tarr P t with
   | some (n,e)=>match tagg P e with
    | some ag=>(ag=false→tsz P e≠0)∧0≤i∧i<n∧i.toNat * tsz P e+tsz P e≤(s.get x).cells.length∧(s.get x).isStr=true∧k (s.put dst (loadBox ag (i.toNat * tsz P e) (tsz P e) (s.get x)))
    | none=>False
   | none=>match P.underlying t,s.get x with
    | some .string,.d (.v (.string b))=>0≤i∧∃ c,b[i.toNat]? = some c∧k (s.put dst (.d (.v (.int .u8 (c.toNat:Int)))))
    | _,_=>False
  | none=>False
 | .slice t x lo hi none=>match telem P t,sliceOf (s.get x),(match lo with | some l=>intOfV (s.get l) | none=>some 0) with
  | some e,some xs,some l=>match (match hi with | some h=>intOfV (s.get h) | none=>some (xs.length:Int)) with
   | some h=>tsz P e≠0∧0≤l∧l≤h∧h≤xs.length∧(0<l→∀ x∈xs,x.cells.length=tsz P e)∧k (s.put dst (slicedV (s.get x) hi (tsz P e) ((xs.take h.toNat).drop l.toNat)))
   | none=>False
  | _,_,_=>False
 | .extract x i=>match s.get x with
  | .tup vs=>match vs[i]? with
   | some v=>k (s.put dst v)
   | none=>False
  | _=>False
 | .makeMap t none=>match tmapk P t with
  | some kd=>s.refs (d::p)=false∧lookN (d::p) s.bx=none∧k ({ s with bx:=(d::p,.mpc kd [])::s.bx }.put dst (.mref (d::p)))
  | none=>False
 | .mapUpdate t m ky x=>match tmapk P t,s.get m with
  | some kd,.mref n=>match lookN n s.bx with
   | some (.mpc kd' kvs)=>kd' = kd∧match s.get ky,s.get x with
    | .d (.v (.int kd2 a)),.d (.v c)=>kd2=kd∧k ({ s with bx:=setN n (.mpc kd (putKV a c kvs)) s.bx }.put dst .dead)
    | _,_=>False
   | _=>False
  | _,_=>False
 | .lookup t x ix ok=>match tmapk P t,tmape P t,s.get x with
  | some kd,some et,.mref n=>match lookN n s.bx with
   | some (.mpc kd' kvs)=>kd' = kd∧match s.get ix with
    | .d (.v (.int kd2 a))=>kd2=kd∧isCells (tzero P et)=true∧k (s.put dst (if ok then .tup [((getKV a kvs).map (fun c=>V.d (.v c))).getD (tzero P et),.d (.v (.bool (getKV a kvs).isSome))] else ((getKV a kvs).map (fun c=>V.d (.v c))).getD (tzero P et)))
    | _=>False
   | _=>False
  | _,_,_=>False
 | .call c=>match c.callee with
  | .builtin .len=>match (c.args.toList.map s.get),c.argTypes.toList with
   | [x],t::_=>match telem P t,sliceOf x with
    | some _,some xs=>k (s.put dst (.d (.v (.int .i64 xs.length))))
    | _,_=>match P.underlying t,x with
     | some .string,.d (.v (.string b))=>k (s.put dst (.d (.v (.int .i64 b.size))))
     | some (.array nn _),_=>nn≤9223372036854775807∧k (s.put dst (.d (.v (.int .i64 nn))))
     | _,.vsl n=>match telem P t,lookN n s.vc with
      | some _,some c=>k (s.put dst (.d (.v (.int .i64 c.2.length))))
      | _,_=>False
     | _,_=>False
   | _,_=>False
  | .builtin .append=>match (c.args.toList.map s.get),c.argTypes.toList with
   | [x,y],t::u::_=>match telem P t,sliceOf y with
    | some e,some ys=>telem P u=some e∧tsz P e≠0∧isCells (tzero P e)=true∧(tzero P e).cells.length=tsz P e∧(∀ y∈ys,y.cells.length=tsz P e)∧match x with
     | .own i sz xs=>i∈s.ow∧sz=tsz P e∧(xs.length+ys.length) * tbytes P e≤140737488355328∧xs.length+ys.length≤9223372036854775807 ∧
       k ({ s.strip i with ow:=i::(s.strip i).ow }.put dst (.own i sz (xs++ys)))
     | .nil=>ys.length * tbytes P e≤140737488355328∧ys.length≤9223372036854775807 ∧
       k ({ s.strip (d::p) with ow:=(d::p)::(s.strip (d::p)).ow }.put dst (.own (d::p) (tsz P e) ys))
     | .vsl n=>match lookN n s.vc with
      | some c=>c.1=tsz P e∧(c.2.length+ys.length) * tbytes P e≤140737488355328∧c.2.length+ys.length≤9223372036854775807 ∧
       k ({ s.strip n with ow:=n::(s.strip n).ow,vc:=(n,(c.1,c.2++ys))::(s.strip n).vc }.put dst (.vsl n))
      | none=>False
     | _=>False
    | _,_=>False
   | _,_=>False
  | .builtin .max=>match (c.args.toList.map s.get) with
   | [.d (.v (.int q a)),.d (.v (.int q2 b))]=>q=q2∧k (s.put dst (.d (.v (.int q (if b>a then b else a)))))
   | _=>False
  | .builtin .min=>match (c.args.toList.map s.get) with
   | [.d (.v (.int q a)),.d (.v (.int q2 b))]=>q=q2∧k (s.put dst (.d (.v (.int q (if b<a then b else a)))))
   | _=>False
  | .value f=>match s.get f with
   | .d (.v (.func (.func g) _ _))=>callable P g=true∧S.call (d::p) g (c.args.toList.map s.get) s fun v s'=>(∀ d,dst=some d→d<s'.n)∧k (s'.put dst v)
   | .fn g cap=>if g<fnB then callable P g=true∧S.call (d::p) g (c.args.toList.map s.get++cap) s (fun v s'=>(∀ d,dst=some d→d<s'.n)∧k (s'.put dst v))
    else callable P (g - fnB)=true∧S.call (d::p) (g - fnB) (cap++c.args.toList.map s.get) s (fun v s'=>(∀ d,dst=some d→d<s'.n)∧k (s'.put dst v))
   | .yld l=>S.yld (d::p) l (c.args.toList.map s.get) s fun v s'=>(∀ d,dst=some d→d<s'.n)∧k (s'.put dst v)
   | _=>False
  | _=>False
 | _=>False
def thrOp (P:Program) (o:Oper) (rest:List Oper):Option (TypeId×Operand):=match o.op,o.guard,o.dst,rest with
 | .makeInterface t x,none,some d,o2::_=>match o2.op,o2.guard with
  | .panic (.tmp d'),none=>if d' = d∧tagg P t=some true then some (t,x) else none
  | _,_=>none
 | _,_,_,_=>none
theorem thrOp_nil {P:Program} {o:Oper}:thrOp P o []=none:=by
 unfold thrOp
 split <;> first | rfl | contradiction
def evOps (P:Program) (S:Sems) (p:Name) (ops:Array Oper):List Oper→Sa→(Sa→Prop)→Prop
 | [],s,k=>k s
 | o::rest,s,k =>
  (match o.dst with | some d=>d<s.n | none=>True) ∧
  match thrOp P o rest with
  | some (t,x)=>S.thr t (s.get x) (s.put o.dst .dead)
  | none =>
  match o.guard with
  | none=>evOp P S p o s (fun s'=>evOps P S p ops rest s' k)
  | some (j,want)=>match (ops[j]?).bind (·.dst) with
   | some t=>match lkT t s.ts with
    | .d (.v (.bool b))=>CaseB b
      (let s1:=s.put (some t) (.d (.v (.bool true)));if want then evOp P S p o s1 (fun s'=>evOps P S p ops rest s' k) else evOps P S p ops rest (s1.put o.dst (.tup [])) k)
      (let s1:=s.put (some t) (.d (.v (.bool false)));if want then evOps P S p ops rest (s1.put o.dst (.tup [])) k else evOp P S p o s1 (fun s'=>evOps P S p ops rest s' k))
    | .tup []=>evOps P S p ops rest (s.put o.dst (.tup [])) k
    | _=>False
   | none=>False
def Sa.thrown (s:Sa) (v:V):Sa:={ s with n:=s.n+1,ts:=setT s.n v s.ts }
def thrQ (Q:Ex→Sa→Prop):TypeId→V→Sa→Prop:=fun t v s=>Q (.thr t) (s.thrown v)
def ev (P:Program) (S:(TypeId→V→Sa→Prop)→Sems) (p:Name):Code→Sa→(Ex→Sa→Prop)→Prop
 | .skip,s,Q=>Q .norm s
 | .region _ ops false,s,Q=>evOps P (S (thrQ Q)) p ops ops.toList s (Q .norm)
 | .region id ops true,s,Q=>(S (thrQ Q)).code p (.region id ops true) s Q
 | .seq a b,s,Q=>ev P S p a s fun e s'=>match e with | .norm=>ev P S p b s' Q | e=>Q e s'
 | .cond c x y,s,Q=>match s.get c with
  | .d (.v (.bool b))=>CaseB b (ev P S p x s Q) (ev P S p y s Q)
  | _=>False
 | .block id b,s,Q=>ev P S p b s fun e s'=>match e with | .exit i=>if i=id then Q .norm s' else Q (.exit i) s' | e=>Q e s'
 | .loop b,s,Q=>(S (thrQ Q)).code p (.loop b) s Q
 | .exit id,s,Q=>Q (.exit id) s
 | .ret,s,Q=>Q .ret s
 | .rangeFunc f ps a b,s,Q=>(S (thrQ Q)).code p (.rangeFunc f ps a b) s Q
 | _,_,_=>False
end Go.Ab
namespace Go.Ab
open Go Go.RowKit
abbrev Cells:=Nat→Nat→Prop
structure Mp where
 bx:Name→Nat
 ow:Name→Nat×Nat×Nat
 lp:Name→Nat
 vl:Name→Option Addr×Nat×Nat
def okLeaf:Value→Prop
 | .bool _=>True
 | .nilFunc=>True
 | .pointer a=>a=none
 | .map r=>r=none
 | .nilIface=>True
 | .int k n=>inR k n=true
 | .string s=>s.size≤9223372036854775807
 | .func _ a b=>a = #[]∧b = #[]
 | _=>False
def leaf:Value→Bool
 | .agg _=>false
 | .tuple _=>false
 | _=>true
inductive RepD (w:World) (M:Cells):D→Value→Prop
 | v {x:Value} (h:okLeaf x):RepD w M (.v x) x
 | agg {ds:List D} {vs:Array Value} (hs:vs.size=ds.length) (hl:∀ i,i<ds.length→leaf (vs.getD i undef)=true)
   (h:∀ i (hi:i<ds.length),RepD w M ds[i] (vs.getD i undef)):RepD w M (.agg ds) (.agg vs)
 | sl {xs:List D} {a:Option Addr} {cap:Nat} (sz b off:Nat) (cv:Nat→Nat→Value)
   (hc:xs.length≤cap) (hm:xs.length≤9223372036854775807)
   (ha:xs≠[]→a=some ⟨b,off,none⟩)
   (hsz:∀ i (hi:i<xs.length),xs[i].cells.length=sz)
   (hcell:∀ i (hi:i<xs.length) j (hj:j<xs[i].cells.length),w.cell? ⟨b,off+i * sz+j,none⟩=some (cv i j)∧leaf (cv i j)=true∧¬ M b (off+i * sz+j))
   (hrep:∀ i (hi:i<xs.length) j (hj:j<xs[i].cells.length),RepD w M (xs[i].cells)[j] (cv i j)) :
   RepD w M (.sl xs) (.slice a xs.length cap)
def Spare (w:World) (m:Mp) (id:Name) (sz:Nat):Value→Prop
 | .slice none _ cap=>cap=0∧(m.ow id).2.2≤(m.ow id).2.1
 | .slice (some a) n cap=>(n=cap∧(m.ow id).2.2≤(m.ow id).2.1)∨(a.spot=none∧n≤cap∧m.ow id=(a.block,a.off+n * sz,a.off+cap * sz) ∧
   ∃ c T,w.heap[a.block]? = some (.cells c T (0,0))∧a.off+cap * sz≤c.size)
 | _=>False
inductive RepV (w:World) (M:Cells) (m:Mp):V→Value→Prop
 | d {x:D} {v:Value} (h:RepD w M x v):RepV w M m (.d x) v
 | nil:RepV w M m .nil (.slice none 0 0)
 | own {id:Name} {sz:Nat} {xs:List D} {v:Value} (h:RepD w M (.sl xs) v) (hsz:∀ x∈xs,x.cells.length=sz) (hs:Spare w m id sz v):RepV w M m (.own id sz xs) v
 | ptr {n:Name} {off:Nat}:RepV w M m (.ptr n off) (.pointer (some ⟨m.bx n,off,none⟩))
 | ref {cs:List D} (b off:Nat) (cv:Nat→Value)
   (hcell:∀ j (hj:j<cs.length),w.cell? ⟨b,off+j,none⟩=some (cv j)∧leaf (cv j)=true∧¬ M b (off+j))
   (hrep:∀ j (hj:j<cs.length),RepD w M cs[j] (cv j)):RepV w M m (.ref cs) (.pointer (some ⟨b,off,none⟩))
 | fn {f:FuncId} {cap:List V} {vs:Array Value} (hs:vs.size=cap.length)
   (h:∀ i (hi:i<cap.length),RepV w M m cap[i] (vs.getD i undef)):RepV w M m (.fn f cap) (fnV f vs)
 | mref {n:Name}:RepV w M m (.mref n) (.map (some (m.bx n)))
 | yld {l:Name}:RepV w M m (.yld l) (.func (.yield (m.lp l)) #[] #[])
 | agg {cs:List V} {vs:Array Value} (hs:vs.size=cs.length) (hl:∀ i,i<cs.length→leaf (vs.getD i undef)=true)
   (h:∀ i (hi:i<cs.length),RepV w M m cs[i] (vs.getD i undef)):RepV w M m (.agg cs) (.agg vs)
 | tup {cs:List V} {vs:Array Value} (hs:vs.size=cs.length)
   (h:∀ i (hi:i<cs.length),RepV w M m cs[i] (vs.getD i undef)):RepV w M m (.tup cs) (.tuple vs)
 | vsl {n:Name}:RepV w M m (.vsl n) (.slice (m.vl n).1 (m.vl n).2.1 (m.vl n).2.2)
 | vpt {n:Name} {off b o:Nat} (h:(m.vl n).1=some ⟨b,o,none⟩):RepV w M m (.vpt n off) (.pointer (some ⟨b,o+off,none⟩))
 | dead {v:Value}:RepV w M m .dead v
def Stab (w:World) (M:Cells) (w' : World) (M' : Cells):Prop :=
 ∀ b o c,w.cell? ⟨b,o,none⟩=some c→¬ M b o→w'.cell? ⟨b,o,none⟩=some c∧¬ M' b o
theorem Stab.refl (w:World) (M:Cells):Stab w M w M:=fun _ _ _ h h'=>⟨h,h'⟩
theorem Stab.trans {w M w' M' w'' M''} (h:Stab w M w' M') (h' : Stab w' M' w'' M''):Stab w M w'' M'' :=
 fun b o c hc hm=>let ⟨a,e⟩:=h b o c hc hm;h' b o c a e
theorem RepD.mono {w M w' M' x v} (hs:Stab w M w' M') (h:RepD w M x v):RepD w' M' x v:=by
 induction h with
 | v h=>exact .v h
 | agg hs' hl _ ih=>exact .agg hs' hl ih
 | sl sz b off cv hc hm ha hsz hcell _ ih =>
  exact .sl sz b off cv hc hm ha hsz (fun i hi j hj=>⟨(hs _ _ _ (hcell i hi j hj).1 (hcell i hi j hj).2.2).1,(hcell i hi j hj).2.1,(hs _ _ _ (hcell i hi j hj).1 (hcell i hi j hj).2.2).2⟩) ih
mutual
def V.bxs:V→List Name
 | .ptr m _=>[m]
 | .mref m=>[m]
 | .fn _ c=>V.bxsL c
 | .agg c=>V.bxsL c
 | .tup c=>V.bxsL c
 | _=>[]
def V.bxsL:List V→List Name
 | []=>[]
 | v::vs=>v.bxs++V.bxsL vs
end
mutual
def V.ows:V→List Name
 | .own i _ _=>[i]
 | .fn _ c=>V.owsL c
 | .agg c=>V.owsL c
 | .tup c=>V.owsL c
 | _=>[]
def V.owsL:List V→List Name
 | []=>[]
 | v::vs=>v.ows++V.owsL vs
end
mutual
def V.lps:V→List Name
 | .yld l=>[l]
 | .fn _ c=>V.lpsL c
 | .agg c=>V.lpsL c
 | .tup c=>V.lpsL c
 | _=>[]
def V.lpsL:List V→List Name
 | []=>[]
 | v::vs=>v.lps++V.lpsL vs
end
mutual
def V.vns:V→List Name
 | .vsl n=>[n]
 | .vpt n _=>[n]
 | .fn _ c=>V.vnsL c
 | .agg c=>V.vnsL c
 | .tup c=>V.vnsL c
 | _=>[]
def V.vnsL:List V→List Name
 | []=>[]
 | v::vs=>v.vns++V.vnsL vs
end
theorem mem_vnsL {n:Name} {vs:List V} {i:Nat} (hi:i<vs.length) (h:n∈(vs[i]).vns):n∈V.vnsL vs:=by
 induction vs generalizing i with
 | nil=>grind
 | cons v vs ih=>grind [V.vnsL]
theorem mem_bxsL {n:Name} {vs:List V} {i:Nat} (hi:i<vs.length) (h:n∈(vs[i]).bxs):n∈V.bxsL vs:=by
 induction vs generalizing i with
 | nil=>grind
 | cons v vs ih=>grind [V.bxsL]
theorem mem_owsL {n:Name} {vs:List V} {i:Nat} (hi:i<vs.length) (h:n∈(vs[i]).ows):n∈V.owsL vs:=by
 induction vs generalizing i with
 | nil=>grind
 | cons v vs ih=>grind [V.owsL]
theorem mem_lpsL {n:Name} {vs:List V} {i:Nat} (hi:i<vs.length) (h:n∈(vs[i]).lps):n∈V.lpsL vs:=by
 induction vs generalizing i with
 | nil=>grind
 | cons v vs ih=>grind [V.lpsL]
theorem RepV.mono {w M m w' M' m' x v} (hs:Stab w M w' M') (h:RepV w M m x v)
  (hb:∀ n∈x.bxs,m'.bx n=m.bx n) (ho:∀ i∈x.ows,∀ sz v,Spare w m i sz v→Spare w' m' i sz v) (hl:∀ l∈x.lps,m'.lp l=m.lp l) (hv:∀ n∈x.vns,m'.vl n=m.vl n:=by intros;rfl):RepV w' M' m' x v:=by
 induction h with
 | d h=>exact .d (h.mono hs)
 | nil=>exact .nil
 | own h hsz hsp=>exact .own (h.mono hs) hsz (ho _ (by simp [V.ows]) _ _ hsp)
 | ptr=>rw [← hb _ (by simp [V.bxs])];exact .ptr
 | mref=>rw [← hb _ (by simp [V.bxs])];exact .mref
 | ref b off cv hcell hrep=>exact .ref b off cv (fun j hj=>⟨(hs _ _ _ (hcell j hj).1 (hcell j hj).2.2).1,(hcell j hj).2.1,(hs _ _ _ (hcell j hj).1 (hcell j hj).2.2).2⟩) (fun j hj=>(hrep j hj).mono hs)
 | fn hs' _ ih=>exact .fn hs' (fun i hi=>ih i hi (fun n hn=>hb n (by grind [V.bxs,mem_bxsL])) (fun n hn=>ho n (by grind [V.ows,mem_owsL])) (fun n hn=>hl n (by grind [V.lps,mem_lpsL])) (fun n hn=>hv n (by grind [V.vns,mem_vnsL])))
 | yld=>rw [← hl _ (by simp [V.lps])];exact .yld
 | agg hs' hlf _ ih=>exact .agg hs' hlf (fun i hi=>ih i hi (fun n hn=>hb n (by grind [V.bxs,mem_bxsL])) (fun n hn=>ho n (by grind [V.ows,mem_owsL])) (fun n hn=>hl n (by grind [V.lps,mem_lpsL])) (fun n hn=>hv n (by grind [V.vns,mem_vnsL])))
 | tup hs' _ ih=>exact .tup hs' (fun i hi=>ih i hi (fun n hn=>hb n (by grind [V.bxs,mem_bxsL])) (fun n hn=>ho n (by grind [V.ows,mem_owsL])) (fun n hn=>hl n (by grind [V.lps,mem_lpsL])) (fun n hn=>hv n (by grind [V.vns,mem_vnsL])))
 | vsl=>rw [← hv _ (by simp [V.vns])];exact .vsl
 | vpt h=>exact .vpt (by grind [V.vns])
 | dead=>exact .dead
end Go.Ab
namespace Go.Ab
open Go Go.RowKit
theorem lkT_setT (t t' : Nat) (x:V) (l:List (Nat×V)):lkT t' (setT t x l)=if t' = t then x else lkT t' l:=by
 induction l with
 | nil =>
  by_cases h:t' = t
  ·simp [setT,lkT,h]
  ·simp [setT,lkT,h,Ne.symm h]
 | cons y l ih =>
  obtain ⟨s,v⟩:=y
  by_cases h:s=t
  ·subst h
   by_cases h2:t' = s
   ·subst h2;simp [setT,lkT]
   ·simp [setT,lkT,h2,Ne.symm h2]
  ·by_cases h2:t' = t
   ·subst h2;simp [setT,lkT,h,ih]
   ·simp [setT,lkT,h,ih,h2]
theorem look_mapT (f:V→V) (hf:f .dead = .dead) (t:Nat) (l:List (Nat×V)):lkT t (mapT f l)=f (lkT t l):=by
 induction l with
 | nil=>simp [mapT,lkT,hf]
 | cons y l ih =>
  obtain ⟨s,v⟩:=y
  simp only [mapT,List.map_cons,lkT] at ih ⊢
  split
  ·rfl
  ·exact ih
theorem lookN_setN {α:Type} (n n' : Name) (x:α) (l:List (Name×α)):lookN n' (setN n x l)=if n' = n then (lookN n l).map (fun _=>x) else lookN n' l:=by
 induction l with
 | nil=>simp [setN,lookN]
 | cons y l ih =>
  obtain ⟨s,v⟩:=y
  by_cases h:s=n
  ·subst h
   by_cases h2:n' = s
   ·subst h2;simp [setN,lookN]
   ·simp [setN,lookN,h2,Ne.symm h2]
  ·by_cases h2:n' = n
   ·subst h2;simp [setN,lookN,h,ih]
   ·simp [setN,lookN,h,ih,h2]
theorem lookN_map {α:Type} (f:α→α) (n:Name) (l:List (Name×α)):lookN n (l.map fun x=>(x.1,f x.2))=(lookN n l).map f:=by
 induction l with
 | nil=>simp [lookN]
 | cons y l ih =>
  obtain ⟨s,v⟩:=y
  simp only [List.map_cons,lookN]
  split <;> simp_all
abbrev TsOK (w:World) (M:Cells) (m:Mp) (ts:List (Nat×V)) (tmps:Array Value):Prop:=∀ t,RepV w M m (lkT t ts) (tmps.getD t undef)
def markOf (d:Deferred):Option Nat:=match d.target with | .collected r=>if d.args = #[] then some r else none | _=>none
def isMk (d:Deferred):Bool:=match d.target with
 | .fn _ _=>false
 | _=>true
structure FrOK (w:World) (M:Cells) (m:Mp) (f:Fr) (a:Act):Prop where
 size:a.tmps.size=f.n
 ts:TsOK w M m f.ts a.tmps
 def_:∀ d∈a.defers.filter isMk,∃ r,d={ target:=.collected r,args:=#[] }∧w.heap[r]? = some (.deferred (some []))
def MapRep (kd:IntKind) (kvs:List (Int×Value)) (es:Array MapEntry):Prop:=es.toList.map (fun e=>(e.key,e.val))=kvs.map (fun x=>(Value.int kd x.1,x.2))∧∀ x∈kvs,okLeaf x.2
def BoxObj (w:World) (b:Nat) (c:V) (cs:Array Value) (T:TypeId):Prop:=match c with
 | .mpc kd kvs=>∃ es clk,w.heap[b]? = some (.map es clk)∧MapRep kd kvs es
 | _=>w.heap[b]? = some (.cells cs T (0,0))
theorem BoxObj.cells {w:World} {b:Nat} {c:V} {cs:Array Value} {T:TypeId} (h:BoxObj w b c cs T) (hc:c.isMpc=false):w.heap[b]? = some (.cells cs T (0,0)):=by
 cases c <;> first | exact h | (simp [V.isMpc] at hc)
theorem BoxObj.mk {w:World} {b:Nat} {c:V} {cs:Array Value} {T:TypeId} (h:w.heap[b]? = some (.cells cs T (0,0))) (hc:c.isMpc=false):BoxObj w b c cs T:=by
 cases c <;> first | exact h | (simp [V.isMpc] at hc)
theorem BoxObj.mono {w w' : World} {b b' : Nat} {c:V} {cs:Array Value} {T:TypeId} (h:BoxObj w b c cs T) (hm:∀ o,w.heap[b]? = some o→(∀ y,o ≠ .deferred y)→(∀ y,o ≠ .loop y)→w'.heap[b']? = some o):BoxObj w' b' c cs T:=by
 by_cases hc:c.isMpc=false
 ·exact .mk (hm _ (h.cells hc) (by simp) (by simp)) hc
 ·cases c <;> simp [V.isMpc] at hc
  obtain ⟨es,clk,h1,h2⟩:=h
  exact ⟨es,clk,hm _ h1 (by simp) (by simp),h2⟩
theorem BoxObj.lt {w:World} {b:Nat} {c:V} {cs:Array Value} {T:TypeId} (h:BoxObj w b c cs T):b<w.heap.size:=by
 by_cases hc:c.isMpc=false
 ·exact (Array.getElem?_eq_some_iff.1 (h.cells hc)).1
 ·cases c <;> simp [V.isMpc] at hc
  obtain ⟨es,clk,h1,h2⟩:=h
  exact (Array.getElem?_eq_some_iff.1 h1).1
theorem isMpc_of {c:V} (h:0<c.cells.length):c.isMpc=false:=by cases c <;> first | rfl | (simp [V.cells] at h)
structure BoxOK (w:World) (M:Cells) (m:Mp) (n:Name) (c:V) (cs:Array Value) (T:TypeId):Prop where
 heap:BoxObj w (m.bx n) c cs T
 size:cs.size=c.cells.length
 leafs:∀ i,i<c.cells.length→leaf (cs.getD i undef)=true
 rep:∀ i (hi:i<c.cells.length),RepV w M m c.cells[i] (cs.getD i undef)
structure LpOK (w:World) (m:Mp) (l:Name) (p:Lp) (as:List Act) (r:Loop) (a:Act):Prop where
 heap:w.heap[m.lp l]? = some (.loop r)
 ps:r.params=p.ps
 assign:r.assign=p.assign
 body:r.body=p.body
 own:as.reverse[p.depth]? = some a
 tmps:r.tmps=a.tmps
 stat:match p.pending with
  | none=>r.state = .ready∧r.pending=none
  | some (some j)=>r.state = .done∧r.pending=some j
  | some none=>r.state = .busy
def nonempty (x:Nat×Nat×Nat):Prop:=x.2.1<x.2.2
def Mut (bx:List (Name×V)) (ow:List Name) (m:Mp):Cells:=fun b o =>
 (∃ n c,lookN n bx=some c∧b=m.bx n)∨(∃ i∈ow,(m.ow i).1=b∧(m.ow i).2.1≤o∧o<(m.ow i).2.2)
abbrev Tot (Mo:Cells) (bx:List (Name×V)) (ow:List Name) (m:Mp):Cells:=fun b o=>Mo b o∨Mut bx ow m b o
def HdOK (w:World) (hd:Option Addr×Nat×Nat) (reg:Nat×Nat×Nat) (sz:Nat):Prop :=
 (hd.2.2=0∧reg=(0,0,0))∨∃ b c T,hd.1=some ⟨b,0,none⟩∧reg=(b,0,hd.2.2 * sz)∧w.heap[b]? = some (.cells c T (0,0))∧c.size=hd.2.2 * sz
theorem HdOK.row {w:World} {hd:Option Addr×Nat×Nat} {reg:Nat×Nat×Nat} {sz b o0:Nat} (h:HdOK w hd reg sz) (e0:hd.1=some ⟨b,o0,none⟩) (hc:hd.2.2≠0) :
  o0=0∧reg=(b,o0,o0+hd.2.2 * sz)∧∃ c T,w.heap[b]? = some (.cells c T (0,0))∧c.size=o0+hd.2.2 * sz:=by
 rcases h with h | ⟨b',c,T,h1,h2,h3,h4⟩
 ·exact absurd h.1 hc
 ·rw [e0] at h1
  cases h1
  exact ⟨rfl,by rw [h2];simp,c,T,h3,by omega⟩
structure VecOK (w:World) (M:Cells) (m:Mp) (n:Name) (sz:Nat) (xs:List D):Prop where
 hd:HdOK w (m.vl n) (m.ow n) sz
 len:(m.vl n).2.1=xs.length
 cap:xs.length≤(m.vl n).2.2
 capm:(m.vl n).2.2≤9223372036854775807
 mx:xs.length≤9223372036854775807
 sz:∀ x∈xs,x.cells.length=sz
 cells:∀ j (hj:j<(flatD xs).length),∃ v,w.cell? ⟨(m.ow n).1,(m.ow n).2.1+j,none⟩=some v∧leaf v=true∧RepD w M (flatD xs)[j] v
def marks (as:List Act):List Deferred:=as.flatMap fun a=>a.defers.filter isMk
structure Rel (Mo:Cells) (m:Mp) (s:Sa) (as:List Act) (w:World):Prop where
 len:as.length=s.sv.length+1
 fr:∀ i (hi:i<(({ rd:=s.rd,n:=s.n,ts:=s.ts }:Fr)::s.sv).length) (h:i<as.length),
   FrOK w (Tot Mo s.bx s.ow m) m (({ rd:=s.rd,n:=s.n,ts:=s.ts }:Fr)::s.sv)[i] as[i]
 box:∀ n c,lookN n s.bx=some c→∃ cs T,BoxOK w (Tot Mo s.bx s.ow m) m n c cs T
 inj:∀ n c n' c',lookN n s.bx=some c→lookN n' s.bx=some c' → m.bx n=m.bx n' → n=n'
 oww:∀ i∈s.ow,nonempty (m.ow i)→∃ c T,w.heap[(m.ow i).1]? = some (.cells c T (0,0))∧(m.ow i).2.2≤c.size
 owx:∀ i∈s.ow,∀ j∈s.ow,nonempty (m.ow i)→nonempty (m.ow j)→(m.ow i).1=(m.ow j).1→i=j
 owb:∀ i∈s.ow,nonempty (m.ow i)→∀ n c,lookN n s.bx=some c→(m.ow i).1≠m.bx n
 lps:∀ l p,lookN l s.lp=some p→∃ r a,LpOK w m l p as r a
 dep:∀ l p,lookN l s.lp=some p→p.depth+1<as.length
 lpi:∀ l p l' p',lookN l s.lp=some p→lookN l' s.lp=some p' → m.lp l=m.lp l' → l=l'
 mo:∀ b o,Mo b o→b<w.heap.size
 mks:(marks as).Nodup
 owm:∀ i∈s.ow,nonempty (m.ow i)→∀ o,¬ Mo (m.ow i).1 o
 vec:∀ n c,lookN n s.vc=some c→n∈s.ow∧VecOK w (Tot Mo s.bx s.ow m) m n c.1 c.2
theorem Rel.cur {Mo m s a sv w} (h:Rel Mo m s (a::sv) w):FrOK w (Tot Mo s.bx s.ow m) m { rd:=s.rd,n:=s.n,ts:=s.ts } a:=h.fr 0 (by simp) (by simp)
theorem Rel.get {Mo m s a sv w} (h:Rel Mo m s (a::sv) w) (t:Nat):RepV w (Tot Mo s.bx s.ow m) m (lkT t s.ts) (a.tmps.getD t undef):=h.cur.ts t
theorem okLeaf_scalar {v:Value} (h:scalar v=true):okLeaf v:=by
 cases v <;> simp_all [scalar,okLeaf]
 rename_i fn a b
 cases fn <;> simp_all [scalar]
theorem repD_const {w M} {v:Value} (h:scalar v=true∨v = .slice none 0 0):RepD w M (constD v) v:=by
 rcases h with h | rfl
 ·have:constD v = .v v:=by
   cases v <;> simp_all [constD,scalar]
  rw [this];exact .v (okLeaf_scalar h)
 ·exact RepD.sl (xs:=[]) (a:=none) (cap:=0) 0 0 0 (fun _ _=>undef) (by simp) (by simp) (by simp) (by simp) (by simp) (by simp)
theorem repV_const {w M m} (v:Value):RepV w M m (constV v) v:=by
 unfold constV
 split
 ·exact .nil
 ·rename_i cs
  split
  ·rename_i h
   have hx:∀ i (hi:i<cs.size),scalar cs[i]=true∨cs[i] = .slice none 0 0:=by
    intro i hi
    have hm:=(Array.all_eq_true.1 h) i hi
    simp only [Bool.or_eq_true] at hm
    rcases hm with hm | hm
    ·exact .inl hm
    ·right
     revert hm
     split <;> simp_all
   refine .d (.agg (by simp) (fun i hi=>?_) (fun i hi=>?_))
   ·simp only [List.length_map,Array.length_toList] at hi
    rw [Array.getD_eq_getD_getElem?,Array.getElem?_eq_getElem hi,Option.getD_some]
    rcases hx i hi with e | e
    ·revert e;cases cs[i] <;> simp [scalar,leaf]
    ·rw [e];rfl
   simp only [List.length_map,Array.length_toList] at hi
   simp only [List.getElem_map,Array.getElem_toList]
   rw [Array.getD_eq_getD_getElem?,Array.getElem?_eq_getElem hi,Option.getD_some]
   exact repD_const (hx i hi)
  ·exact .dead
 ·split
  ·rename_i h;exact .d (.v (okLeaf_scalar h))
  ·exact .dead
theorem Rel.operand {Mo m s a sv w} (h:Rel Mo m s (a::sv) w) (x:Operand):RepV w (Tot Mo s.bx s.ow m) m (s.get x) (a.eval x):=by
 cases x with
 | tmp t=>exact h.get t
 | const v=>exact repV_const v
 | global g=>exact .dead
 | func f=>exact .d (.v (by simp [okLeaf]))
theorem FrOK.put {w M m f a} (h:FrOK w M m f a) {d:Nat} {v:V} {c:Value} (hd:d<f.n) (hv:RepV w M m v c) :
  FrOK w M m { f with ts:=setT d v f.ts } (a.put (some d) c):=by
 refine ⟨by simp [Act.put,h.size],fun t=>?_,h.def_⟩
 rw [lkT_setT]
 simp only [Act.put]
 by_cases e:t=d
 ·subst e
  have:t<a.tmps.size:=by rw [h.size];exact hd
  simp [Array.getD_eq_getD_getElem?,Array.getElem?_setIfInBounds_self_of_lt this];exact hv
 ·have:=h.ts t
  simp only [e,if_false]
  rw [Array.getD_eq_getD_getElem?] at this ⊢
  rw [Array.getElem?_setIfInBounds_ne (Ne.symm e)];exact this
theorem marks_put {a:Act} {d:Option Tmp} {c:Value} {sv:List Act}:marks (a.put d c::sv)=marks (a::sv):=by
 cases d <;> simp [marks,Act.put]
theorem Rel.put {Mo m s a sv w} (h:Rel Mo m s (a::sv) w) {dst:Option Tmp} {v:V} {c:Value} (hd:∀ d,dst=some d→d<s.n) (hv:RepV w (Tot Mo s.bx s.ow m) m v c) :
  Rel Mo m (s.put dst v) (a.put dst c::sv) w:=by
 cases dst with
 | none=>exact h
 | some d =>
  refine ⟨h.len,?_,h.box,h.inj,h.oww,h.owx,h.owb,?_,h.dep,h.lpi,h.mo,?_,h.owm,h.vec⟩
  ·intro i hi hi'
   cases i with
   | zero=>exact h.cur.put (hd d rfl) hv
   | succ i=>exact h.fr (i+1) hi hi'
  ·intro l p hl
   obtain ⟨r,b,hr⟩:=h.lps l p hl
   refine ⟨r,b,⟨hr.heap,hr.ps,hr.assign,hr.body,?_,hr.tmps,hr.stat⟩⟩
   have hlt:=h.dep l p hl
   have:=hr.own
   simp only [List.reverse_cons] at this ⊢
   rw [List.getElem?_append_left (by simpa using hlt)] at this ⊢
   exact this
  ·rw [marks_put];exact h.mks
theorem stab_below {w w' : World} (M:Cells) (hb:Below w.heap.size w w'):Stab w M w' M:=fun b o c hc hm=>by
 refine ⟨?_,hm⟩
 rw [hb.cell (p:=⟨b,o,none⟩) (World.block_lt_of_cell? w _ hc)];exact hc
theorem heap_below {w w' : World} (hb:Below w.heap.size w w') {b:Nat} {o:Obj} (h:w.heap[b]? = some o):w'.heap[b]? = some o:=by
 rw [hb.block b (Array.getElem?_eq_some_iff.1 h).1];exact h
theorem spare_heap {w w' : World} {m m' : Mp} {i:Name} {sz:Nat} {v:Value} (h:Spare w m i sz v) (ho:m'.ow i=m.ow i)
  (hh:∀ (b:Nat) (o:Obj),w.heap[b]? = some o→w'.heap[b]? = some o):Spare w' m' i sz v:=by
 unfold Spare at h ⊢
 split at h
 ·rw [ho];exact h
 ·rw [ho]
  rcases h with h | ⟨h1,h2,h3,c,T,h4,h5⟩
  ·exact .inl h
  ·exact .inr ⟨h1,h2,h3,c,T,hh _ _ h4,h5⟩
 ·exact h.elim
theorem flatD_len {xs:List D} {sz:Nat} (h:∀ x∈xs,x.cells.length=sz):(flatD xs).length=xs.length * sz:=by
 induction xs with
 | nil=>simp [flatD]
 | cons x xs ih =>
  simp only [flatD,List.flatMap_cons,List.length_append,List.length_cons] at ih ⊢
  rw [ih (fun y hy=>h y (List.mem_cons_of_mem _ hy)),h x List.mem_cons_self,Nat.succ_mul,Nat.add_comm]
theorem VecOK.mono {w w' : World} {M M' : Cells} {m m' : Mp} {n:Name} {sz:Nat} {xs:List D} (h:VecOK w M m n sz xs) (hs:Stab w M w' M') (hvl:m'.vl n=m.vl n) (how:m'.ow n=m.ow n)
  (hc:nonempty (m.ow n)→∀ o v,(m.ow n).2.1≤o→o<(m.ow n).2.2→w.cell? ⟨(m.ow n).1,o,none⟩=some v→w'.cell? ⟨(m.ow n).1,o,none⟩=some v)
  (hb:∀ (b:Nat) (c:Array Value) (T:TypeId),w.heap[b]? = some (.cells c T (0,0))→∃ c',w'.heap[b]? = some (.cells c' T (0,0))∧c'.size=c.size):VecOK w' M' m' n sz xs:=by
 refine ⟨?_,by rw [hvl];exact h.len,by rw [hvl];exact h.cap,by rw [hvl];exact h.capm,h.mx,h.sz,fun j hj=>?_⟩
 ·have:=h.hd
  rw [hvl,how]
  rcases this with h | ⟨b,c,T,h1,h2,h3,h4⟩
  ·exact .inl h
  ·obtain ⟨c',h5,h6⟩:=hb _ _ _ h3
   exact .inr ⟨b,c',T,h1,h2,h5,by omega⟩
 ·obtain ⟨v,h1,h2,h3⟩:=h.cells j hj
  rw [flatD_len h.sz] at hj
  have hcap:=h.cap
  have hlt:j<(m.vl n).2.2 * sz:=Nat.lt_of_lt_of_le hj (Nat.mul_le_mul_right _ hcap)
  have hrow:(m.ow n).2.2=(m.ow n).2.1+(m.vl n).2.2 * sz:=by
   rcases h.hd with h | ⟨b,c,T,h1,h2,h3,h4⟩
   ·rw [h.1] at hlt;simp at hlt
   ·rw [h2];simp
  have hne:nonempty (m.ow n):=by unfold nonempty;omega
  exact ⟨v,by rw [how];exact hc hne _ _ (by omega) (by omega) h1,h2,h3.mono hs⟩
theorem RepV.grow {w M m w' x v} (hb:Below w.heap.size w w') (h:RepV w M m x v):RepV w' M m x v :=
 h.mono (stab_below M hb) (fun _ _=>rfl) (fun _ _ _ _ hs=>spare_heap hs rfl (fun _ _=>heap_below hb)) (fun _ _=>rfl)
theorem FrOK.below {w M m f a w'} (hb:Below w.heap.size w w') (h:FrOK w M m f a):FrOK w' M m f a :=
 ⟨h.size,fun t=>(h.ts t).grow hb,fun d hd=>let ⟨r,e,hr⟩:=h.def_ d hd;⟨r,e,heap_below hb hr⟩⟩
theorem BoxOK.below {w M m n c cs T w'} (hb:Below w.heap.size w w') (h:BoxOK w M m n c cs T):BoxOK w' M m n c cs T :=
 ⟨h.heap.mono (fun _ ho _ _=>heap_below hb ho),h.size,h.leafs,fun i hi=>(h.rep i hi).grow hb⟩
theorem LpOK.below {w m l p as r a w'} (hb:Below w.heap.size w w') (h:LpOK w m l p as r a):LpOK w' m l p as r a :=
 ⟨heap_below hb h.heap,h.ps,h.assign,h.body,h.own,h.tmps,h.stat⟩
theorem Rel.below {Mo m s as w w'} (h:Rel Mo m s as w) (hb:Below w.heap.size w w'):Rel Mo m s as w':=by
 refine ⟨h.len,fun i hi hi'=>(h.fr i hi hi').below hb,?_,h.inj,?_,h.owx,h.owb,?_,h.dep,h.lpi,?_,h.mks,h.owm,fun n c hn=>⟨(h.vec n c hn).1,(h.vec n c hn).2.mono (stab_below _ hb) rfl rfl (fun _ o v _ _ hv=>by rw [hb.cell (p:=⟨_,o,none⟩) (World.block_lt_of_cell? w _ hv)];exact hv) (fun b c T hc=>⟨c,heap_below hb hc,rfl⟩)⟩⟩
 ·intro n c hn;obtain ⟨cs,T,hx⟩:=h.box n c hn;exact ⟨cs,T,hx.below hb⟩
 ·intro i hi hn;obtain ⟨c,T,h1,h2⟩:=h.oww i hi hn;exact ⟨c,T,heap_below hb h1,h2⟩
 ·intro l p hl;obtain ⟨r,a,hr⟩:=h.lps l p hl;exact ⟨r,a,hr.below hb⟩
 ·intro b o hm;exact Nat.lt_of_lt_of_le (h.mo b o hm) hb.size
structure Keeps (w w' : World) (C:Cells) (L:Nat→Prop):Prop where
 os:w'.os=w.os
 tape:w'.tape=w.tape
 output:w'.output=w.output
 size:w.heap.size≤w'.heap.size
 blk:∀ b,b<w.heap.size→(∀ o,¬ C b o)→¬ L b→w'.heap[b]? = w.heap[b]?
 cel:∀ b c T f,w.heap[b]? = some (.cells c T f)→¬ L b→∃ c',w'.heap[b]? = some (.cells c' T f)∧c'.size=c.size∧∀ o,¬ C b o→c'[o]? = c[o]?
def LpB (lp:List (Name×Lp)) (m:Mp):Nat→Prop:=fun b=>∃ l p,lookN l lp=some p∧b=m.lp l
structure MpEq (l:Name) (m' m:Mp):Prop where
 lp:m'.lp l=m.lp l
 bx:∀ n∈decH l,m'.bx n=m.bx n
theorem MpEq.refl {l:Name} {m:Mp}:MpEq l m m:=⟨rfl,fun _ _=>rfl⟩
theorem MpEq.trans {l:Name} {a b c:Mp} (h:MpEq l a b) (k:MpEq l b c):MpEq l a c:=⟨h.lp.trans k.lp,fun n hn=>(h.bx n hn).trans (k.bx n hn)⟩
theorem protd_ne {rs:List (Option Name)} {n:Name} (h:protd rs n=false) {l:Name} (hl:some l∈rs):∀ k∈decH l,k≠n:=by
 rintro k hk rfl
 have:=List.any_eq_false.1 h _ hl
 simp only [List.contains_eq_mem,decide_eq_true_eq] at this
 exact this hk
structure Step (m:Mp) (s:Sa) (w:World) (m' : Mp) (s' : Sa) (w' : World):Prop where
 keeps:Keeps w w' (Mut s.bx s.ow m) (LpB s.lp m)
 mt:∀ b o,b<w.heap.size→Mut s'.bx s'.ow m' b o→Mut s.bx s.ow m b o
 lp:∀ b,b<w.heap.size→LpB s'.lp m' b→LpB s.lp m b
 rd:s'.rd=s.rd
 svrd:s'.sv.map (·.rd)=s.sv.map (·.rd)
 lpm:∀ l,some l∈rds s→MpEq l m' m
theorem Keeps.of_below {w w' C L} (h:Below w.heap.size w w'):Keeps w w' C L :=
 ⟨h.os,h.tape,h.output,h.size,fun b hb _ _=>h.block b hb,fun b c T f hc _=>⟨c,heap_below h hc,rfl,fun _ _=>rfl⟩⟩
theorem Step.refl (m s w):Step m s w m s w:=⟨.of_below (Below.refl _ _),fun _ _ _ h=>h,fun _ _ h=>h,rfl,rfl,fun _ _=>.refl⟩
theorem Step.of_below {m s w w'} (h:Below w.heap.size w w'):Step m s w m s w':=⟨.of_below h,fun _ _ _ h=>h,fun _ _ h=>h,rfl,rfl,fun _ _=>.refl⟩
theorem Step.trans {m s w m' s' w' m'' s'' w''} (h:Step m s w m' s' w') (k:Step m' s' w' m'' s'' w''):Step m s w m'' s'' w'':=by
 refine ⟨⟨k.keeps.os.trans h.keeps.os,k.keeps.tape.trans h.keeps.tape,k.keeps.output.trans h.keeps.output,Nat.le_trans h.keeps.size k.keeps.size,?_,?_⟩,?_,?_,k.rd.trans h.rd,k.svrd.trans h.svrd,fun l hl=>(k.lpm l (by unfold rds;rw [h.rd,h.svrd];exact hl)).trans (h.lpm l hl)⟩
 ·intro b hb hC hL
  rw [k.keeps.blk b (Nat.lt_of_lt_of_le hb h.keeps.size) (fun o ho=>hC o (h.mt b o hb ho)) (fun ho=>hL (h.lp b hb ho)),h.keeps.blk b hb hC hL]
 ·intro b c T f hc hL
  have hb:=(Array.getElem?_eq_some_iff.1 hc).1
  obtain ⟨c1,h1,h2,h3⟩:=h.keeps.cel b c T f hc hL
  obtain ⟨c2,k1,k2,k3⟩:=k.keeps.cel b c1 T f h1 (fun ho=>hL (h.lp b hb ho))
  exact ⟨c2,k1,k2.trans h2,fun o ho=>(k3 o (fun ho'=>ho (h.mt b o hb ho'))).trans (h3 o ho)⟩
 ·exact fun b o hb ho=>h.mt b o hb (k.mt b o (Nat.lt_of_lt_of_le hb h.keeps.size) ho)
 ·exact fun b hb ho=>h.lp b hb (k.lp b (Nat.lt_of_lt_of_le hb h.keeps.size) ho)
end Go.Ab
namespace Go.Ab
open Go Go.RowKit
theorem V.stripL_length (i:Name) (vs:List V):(V.stripL i vs).length=vs.length:=by
 induction vs with
 | nil=>rfl
 | cons v vs ih=>simp [V.stripL,ih]
theorem V.stripL_get (i:Name) (vs:List V) (k:Nat) (h:k<(V.stripL i vs).length):(V.stripL i vs)[k]=(vs[k]'(by rwa [V.stripL_length] at h)).strip i:=by
 induction vs generalizing k with
 | nil=>simp [V.stripL] at h
 | cons v vs ih=>grind [V.stripL]
theorem V.stripL_map (i:Name) (vs:List V):V.stripL i vs=vs.map (V.strip i):=by
 induction vs with
 | nil=>rfl
 | cons v vs ih=>simp [V.stripL,ih]
theorem RepV.strip {w M m x v} (i:Name) (h:RepV w M m x v):RepV w M m (x.strip i) v:=by
 induction h with
 | d h=>exact .d h
 | nil=>exact .nil
 | own h hsz hs =>
  simp only [V.strip];split
  ·exact .d h
  ·exact .own h hsz hs
 | ptr=>exact .ptr
 | mref=>exact .mref
 | ref b off cv h1 h2=>exact .ref b off cv h1 h2
 | fn hs _ ih=>exact .fn (by rw [hs,V.stripL_length]) (fun k hk=>by grind [V.stripL_get])
 | yld=>exact .yld
 | agg hs hl _ ih=>exact .agg (by rw [hs,V.stripL_length]) (fun k hk=>hl k (by rwa [V.stripL_length] at hk)) (fun k hk=>by grind [V.stripL_get])
 | tup hs _ ih=>exact .tup (by rw [hs,V.stripL_length]) (fun k hk=>by grind [V.stripL_get])
 | vsl =>
  simp only [V.strip];split
  ·exact .dead
  ·exact .vsl
 | vpt h =>
  simp only [V.strip];split
  ·exact .dead
  ·exact .vpt h
 | dead=>exact .dead
mutual
theorem V.bxs_strip (i:Name):∀ v:V,(v.strip i).bxs=v.bxs
 | .own j sz xs=>by simp only [V.strip];split <;> simp [V.bxs]
 | .vsl j=>by simp only [V.strip];split <;> simp [V.bxs]
 | .vpt j _=>by simp only [V.strip];split <;> simp [V.bxs]
 | .fn f c=>by simp only [V.strip,V.bxs,V.bxsL_strip i c]
 | .agg c=>by simp only [V.strip,V.bxs,V.bxsL_strip i c]
 | .tup c=>by simp only [V.strip,V.bxs,V.bxsL_strip i c]
 | .d _ | .nil | .ptr .. | .mref _ | .mpc .. | .ref _ | .yld _ | .dead=>by simp [V.strip,V.bxs]
theorem V.bxsL_strip (i:Name):∀ vs:List V,V.bxsL (V.stripL i vs)=V.bxsL vs
 | []=>by simp [V.stripL]
 | v::vs=>by simp [V.stripL,V.bxsL,V.bxs_strip i v,V.bxsL_strip i vs]
end
mutual
theorem V.ows_strip (i:Name):∀ v:V,∀ j∈(v.strip i).ows,j∈v.ows∧j≠i
 | .own j sz xs=>by
  simp only [V.strip];split
  ·simp [V.ows]
  ·rename_i h;simp [V.ows];exact h
 | .vsl j=>by simp only [V.strip];split <;> simp [V.ows]
 | .vpt j _=>by simp only [V.strip];split <;> simp [V.ows]
 | .fn f c=>by simp only [V.strip,V.ows];exact V.owsL_strip i c
 | .agg c=>by simp only [V.strip,V.ows];exact V.owsL_strip i c
 | .tup c=>by simp only [V.strip,V.ows];exact V.owsL_strip i c
 | .d _ | .nil | .ptr .. | .mref _ | .mpc .. | .ref _ | .yld _ | .dead=>by simp [V.strip,V.ows]
theorem V.owsL_strip (i:Name):∀ vs:List V,∀ j∈V.owsL (V.stripL i vs),j∈V.owsL vs∧j≠i
 | []=>by simp [V.stripL,V.owsL]
 | v::vs=>by
  intro j hj
  simp only [V.stripL,V.owsL,List.mem_append] at hj ⊢
  rcases hj with hj | hj
  ·exact ⟨.inl (V.ows_strip i v j hj).1,(V.ows_strip i v j hj).2⟩
  ·exact ⟨.inr (V.owsL_strip i vs j hj).1,(V.owsL_strip i vs j hj).2⟩
end
mutual
theorem V.refs_bxs (n:Name):∀ v:V,v.refs n=false→n ∉ v.bxs
 | .ptr m o=>by simp [V.refs,V.bxs];exact fun h e=>h e.symm
 | .mref m=>by simp [V.refs,V.bxs];exact fun h e=>h e.symm
 | .fn f c=>by simp only [V.refs,V.bxs];exact V.refsL_bxs n c
 | .agg c=>by simp only [V.refs,V.bxs];exact V.refsL_bxs n c
 | .tup c=>by simp only [V.refs,V.bxs];exact V.refsL_bxs n c
 | .own .. | .d _ | .nil | .ref _ | .yld _ | .mpc .. | .vsl .. | .vpt .. | .dead=>by simp [V.bxs]
theorem V.refsL_bxs (n:Name):∀ vs:List V,V.refsL n vs=false→n ∉ V.bxsL vs
 | []=>by simp [V.bxsL]
 | v::vs=>by
  simp only [V.refsL,V.bxsL,Bool.or_eq_false_iff,List.mem_append,not_or]
  exact fun ⟨a,b⟩=>⟨V.refs_bxs n v a,V.refsL_bxs n vs b⟩
end
mutual
theorem V.vns_strip (i:Name):∀ v:V,∀ j∈(v.strip i).vns,j∈v.vns∧j≠i
 | .own j sz xs=>by simp only [V.strip];split <;> simp [V.vns]
 | .vsl j=>by
  simp only [V.strip];split
  ·simp [V.vns]
  ·rename_i h;simp [V.vns];exact h
 | .vpt j _=>by
  simp only [V.strip];split
  ·simp [V.vns]
  ·rename_i h;simp [V.vns];exact h
 | .fn f c=>by simp only [V.strip,V.vns];exact V.vnsL_strip i c
 | .agg c=>by simp only [V.strip,V.vns];exact V.vnsL_strip i c
 | .tup c=>by simp only [V.strip,V.vns];exact V.vnsL_strip i c
 | .d _ | .nil | .ptr .. | .mref _ | .mpc .. | .ref _ | .yld _ | .dead=>by simp [V.strip,V.vns]
theorem V.vnsL_strip (i:Name):∀ vs:List V,∀ j∈V.vnsL (V.stripL i vs),j∈V.vnsL vs∧j≠i
 | []=>by simp [V.stripL,V.vnsL]
 | v::vs=>by
  intro j hj
  simp only [V.stripL,V.vnsL,List.mem_append] at hj ⊢
  rcases hj with hj | hj
  ·exact ⟨.inl (V.vns_strip i v j hj).1,(V.vns_strip i v j hj).2⟩
  ·exact ⟨.inr (V.vnsL_strip i vs j hj).1,(V.vnsL_strip i vs j hj).2⟩
end
theorem V.cells_strip (i:Name) (v:V):(v.strip i).cells=v.cells.map (V.strip i):=by
 cases v with
 | d x=>cases x <;> simp [V.strip,V.cells,List.map_map,Function.comp_def]
 | own j sz xs=>grind [V.strip,V.cells]
 | vsl j=>grind [V.strip,V.cells]
 | vpt j o=>grind [V.strip,V.cells]
 | agg c=>simp [V.strip,V.cells,V.stripL_map]
 | _=>rfl
theorem bxs_cells (v:V) (i:Nat) (hi:i<v.cells.length):∀ n∈(v.cells[i]).bxs,n∈v.bxs:=by
 intro n hn
 cases v with
 | d x=>cases x <;> simp_all [V.cells,V.bxs]
 | agg c=>grind [V.cells,V.bxs,mem_bxsL]
 | mpc k l=>simp [V.cells] at hi
 | _=>simp_all [V.cells]
theorem ows_cells (v:V) (i:Nat) (hi:i<v.cells.length):∀ n∈(v.cells[i]).ows,n∈v.ows:=by
 intro n hn
 cases v with
 | d x=>cases x <;> simp_all [V.cells,V.ows]
 | agg c=>grind [V.cells,V.ows,mem_owsL]
 | mpc k l=>simp [V.cells] at hi
 | _=>simp_all [V.cells]
theorem vns_cells (v:V) (i:Nat) (hi:i<v.cells.length):∀ n∈(v.cells[i]).vns,n∈v.vns:=by
 intro n hn
 cases v with
 | d x=>cases x <;> simp_all [V.cells,V.vns]
 | agg c=>grind [V.cells,V.vns,mem_vnsL]
 | mpc k l=>simp [V.cells] at hi
 | _=>simp_all [V.cells]
theorem lps_cells (v:V) (i:Nat) (hi:i<v.cells.length):∀ n∈(v.cells[i]).lps,n∈v.lps:=by
 intro n hn
 cases v with
 | d x=>cases x <;> simp_all [V.cells,V.lps]
 | agg c=>grind [V.cells,V.lps,mem_lpsL]
 | mpc k l=>simp [V.cells] at hi
 | _=>simp_all [V.cells]
structure AllV (P:V→Prop) (s:Sa):Prop where
 ts:∀ t,P (lkT t s.ts)
 sv:∀ f∈s.sv,∀ t,P (lkT t f.ts)
 bx:∀ n c,lookN n s.bx=some c→P c
theorem look_mem (P:V→Prop) (h0:P .dead) (ts:List (Nat×V)) (h:∀ x∈ts,P x.2) (t:Nat):P (lkT t ts):=by
 induction ts with
 | nil=>exact h0
 | cons y l ih =>
  grind [lkT]
theorem lookN_mem {α:Type} {n:Name} {l:List (Name×α)} {c:α} (h:lookN n l=some c):(n,c)∈l:=by
 induction l with
 | nil=>simp [lookN] at h
 | cons y l ih =>
  grind [lookN]
theorem Sa.refs_protd {s:Sa} {n:Name} (h:s.refs n=false):protd (rds s) n=false:=(Bool.or_eq_false_iff.1 h).1
theorem Sa.refs_all {s:Sa} {n:Name} (h:s.refs n=false):AllV (fun v=>n ∉ v.bxs) s:=by
 replace h:=(Bool.or_eq_false_iff.1 h).2
 simp only [Bool.or_eq_false_iff,List.any_eq_false] at h
 obtain ⟨⟨h1,h2⟩,h3⟩:=h
 refine ⟨fun t=>look_mem (fun v=>n ∉ v.bxs) (by simp [V.bxs]) _ (fun x hx=>V.refs_bxs n _ (Bool.eq_false_iff.2 (h1 x hx))) t,fun f hf t=>look_mem (fun v=>n ∉ v.bxs) (by simp [V.bxs]) _ (fun x hx=>?_) t,
  fun k c hk=>V.refs_bxs n c (Bool.eq_false_iff.2 (h3 _ (lookN_mem hk)))⟩
 grind [V.refs_bxs]
theorem Rel.remap {Mo m s as w w' m' s'} (h:Rel Mo m s as w)
  (hrd:s'.rd=s.rd) (hn:s'.n=s.n) (hts:s'.ts=s.ts) (hsv:s'.sv=s.sv) (hlp:s'.lp=s.lp)
  (hst:Stab w (Tot Mo s.bx s.ow m) w' (Tot Mo s'.bx s'.ow m'))
  (hv:AllV (fun v=>(∀ n∈v.bxs,m'.bx n=m.bx n)∧(∀ i∈v.ows,∀ sz x,Spare w m i sz x→Spare w' m' i sz x)∧(∀ l∈v.lps,m'.lp l=m.lp l)) s)
  (hsize:w.heap.size≤w'.heap.size)
  (hnc:∀ (b:Nat) (o:Obj),w.heap[b]? = some o→(∀ c T f,o ≠ .cells c T f)→w'.heap[b]? = some o)
  (hlpm:∀ l p,lookN l s.lp=some p→m'.lp l=m.lp l)
  (hbox:∀ n c,lookN n s'.bx=some c→∃ cs T,BoxOK w' (Tot Mo s'.bx s'.ow m') m' n c cs T)
  (hinj:∀ n c n' c',lookN n s'.bx=some c→lookN n' s'.bx=some c' → m'.bx n=m'.bx n' → n=n')
  (howw:∀ i∈s'.ow,nonempty (m'.ow i)→∃ c T,w'.heap[(m'.ow i).1]? = some (.cells c T (0,0))∧(m'.ow i).2.2≤c.size)
  (howx:∀ i∈s'.ow,∀ j∈s'.ow,nonempty (m'.ow i)→nonempty (m'.ow j)→(m'.ow i).1=(m'.ow j).1→i=j)
  (howb:∀ i∈s'.ow,nonempty (m'.ow i)→∀ n c,lookN n s'.bx=some c→(m'.ow i).1≠m'.bx n)
  (howm:∀ i∈s'.ow,nonempty (m'.ow i)→∀ o,¬ Mo (m'.ow i).1 o)
  (hvec:∀ n c,lookN n s'.vc=some c→n∈s'.ow∧VecOK w' (Tot Mo s'.bx s'.ow m') m' n c.1 c.2)
  (hvl:AllV (fun v=>∀ n∈v.vns,m'.vl n=m.vl n) s:=by exact ⟨fun _ _ _=>rfl,fun _ _ _ _ _=>rfl,fun _ _ _ _ _=>rfl⟩):Rel Mo m' s' as w':=by
 have hfr:∀ (f:Fr) (a:Act),(∀ t,(∀ n∈(lkT t f.ts).bxs,m'.bx n=m.bx n)∧(∀ i∈(lkT t f.ts).ows,∀ sz x,Spare w m i sz x→Spare w' m' i sz x)∧(∀ l∈(lkT t f.ts).lps,m'.lp l=m.lp l))→(∀ t,∀ n∈(lkT t f.ts).vns,m'.vl n=m.vl n) →
   FrOK w (Tot Mo s.bx s.ow m) m f a→FrOK w' (Tot Mo s'.bx s'.ow m') m' f a:=fun f a hf hg hx =>
  ⟨hx.size,fun t=>(hx.ts t).mono hst (hf t).1 (hf t).2.1 (hf t).2.2 (hg t),fun d hd=>let ⟨r,e,hr⟩:=hx.def_ d hd;⟨r,e,hnc _ _ hr (by simp)⟩⟩
 refine ⟨by rw [hsv];exact h.len,?_,hbox,hinj,howw,howx,howb,?_,by rw [hlp];exact h.dep,?_,fun b o hm=>Nat.lt_of_lt_of_le (h.mo b o hm) hsize,h.mks,howm,hvec⟩
 ·intro i hi hi'
  have hi0:i<(({ rd:=s.rd,n:=s.n,ts:=s.ts }:Fr)::s.sv).length:=by grind
  have:=h.fr i hi0 hi'
  cases i with
  | zero =>
   simp only [List.getElem_cons_zero] at this ⊢
   rw [hrd,hn,hts]
   exact hfr _ _ (fun t=>hv.ts t) (fun t=>hvl.ts t) this
  | succ i =>
   simp only [List.getElem_cons_succ] at this ⊢
   have e:s'.sv[i]'(by simpa using hi)=s.sv[i]'(by simpa using hi0):=by simp [hsv]
   rw [e]
   exact hfr _ _ (fun t=>hv.sv _ (List.getElem_mem _) t) (fun t=>hvl.sv _ (List.getElem_mem _) t) this
 ·intro l p hl
  rw [hlp] at hl
  obtain ⟨r,a,hr⟩:=h.lps l p hl
  exact ⟨r,a,⟨by rw [hlpm l p hl];exact hnc _ _ hr.heap (by simp),hr.ps,hr.assign,hr.body,hr.own,hr.tmps,hr.stat⟩⟩
 ·intro l p l' p' hl hl' e
  rw [hlp] at hl hl'
  rw [hlpm l p hl,hlpm l' p' hl'] at e
  exact h.lpi l p l' p' hl hl' e
theorem lookN_filter {α:Type} {q:Name→Bool} {n:Name}:∀ {l:List (Name×α)},lookN n (l.filter fun x=>q x.1)=if q n=true then lookN n l else none
 | []=>by simp [lookN]
 | (k,x)::l=>by
  have ih:=lookN_filter (q:=q) (n:=n) (l:=l)
  simp only [List.filter_cons]
  by_cases e:k=n
  ·grind [lookN]
  grind [lookN]
theorem VecOK.putObj {w:World} {M M' : Cells} {m:Mp} {n:Name} {sz:Nat} {xs:List D} {b:Nat} {x o:Obj} (h:VecOK w M m n sz xs) (hx:w.heap[b]? = some x) (hnc:∀ c T f,x ≠ .cells c T f) (hs:Stab w M (w.putObj b o) M'):VecOK (w.putObj b o) M' m n sz xs:=by
 have hne:∀ (b' : Nat) (c:Array Value) (T:TypeId),w.heap[b']? = some (.cells c T (0,0))→b' ≠ b:=fun b' c T hc e=>by grind
 refine h.mono hs rfl rfl (fun hn o' v _ _ hv=>?_) (fun b' c T hc=>⟨c,by grind [World.putObj_heap_other],rfl⟩)
 rcases h.hd with hd | ⟨b0,c,T,h1,h2,h3,_⟩
 ·grind
 grind [World.cell?_of_block,World.putObj_heap_other]
theorem BoxObj.strip {w:World} {b:Nat} {c:V} {cs:Array Value} {T:TypeId} {i:Name} (h:BoxObj w b c cs T):BoxObj w b (c.strip i) cs T:=by
 cases c <;> first | exact h | (simp only [V.strip];exact h) | (simp only [V.strip];split <;> exact h)
theorem FrOK.strip {w M m f a} (i:Name) (h:FrOK w M m f a):FrOK w M m { f with ts:=mapT (V.strip i) f.ts } a :=
 ⟨h.size,fun t=>by rw [look_mapT _ (by rfl)];exact (h.ts t).strip i,h.def_⟩
theorem Stab.mono_rep {w M m M' x v} (hs:Stab w M w M') (h:RepV w M m x v):RepV w M' m x v:=h.mono hs (fun _ _=>rfl) (fun _ _ _ _ h=>h) (fun _ _=>rfl)
theorem FrOK.stab {w M m M' f a} (hs:Stab w M w M') (h:FrOK w M m f a):FrOK w M' m f a:=⟨h.size,fun t=>hs.mono_rep (h.ts t),h.def_⟩
theorem Rel.dropOw {Mo m s as w} (h:Rel Mo m s as w) (i:Name) (ow' : List Name) (hsub:∀ j∈ow',j∈s.ow) (vc' : List (Name×Nat×List D)) (hvc:∀ n c,lookN n vc' = some c→lookN n s.vc=some c∧n∈ow') :
  Rel Mo m { s with ts:=mapT (V.strip i) s.ts,sv:=s.sv.map (fun f=>{ f with ts:=mapT (V.strip i) f.ts }),bx:=s.bx.map (fun x=>(x.1,x.2.strip i)),ow:=ow',vc:=vc' } as w:=by
 have hmut:∀ b o,Mut (s.bx.map (fun x=>(x.1,x.2.strip i))) ow' m b o→Mut s.bx s.ow m b o:=by
  intro b o hm
  rcases hm with ⟨n,c,hn,hb⟩ | ⟨j,hj,h2⟩
  ·rw [lookN_map] at hn
   cases hc:lookN n s.bx with
   | none=>grind
   | some c'=>exact .inl ⟨n,c',hc,hb⟩
  ·exact .inr ⟨j,hsub j hj,h2⟩
 have hst:Stab w (Tot Mo s.bx s.ow m) w (Tot Mo (s.bx.map (fun x=>(x.1,x.2.strip i))) ow' m):=fun b o c hc hm=>⟨hc,fun hx=>hm (hx.imp id (hmut b o))⟩
 have hbx:∀ n c,lookN n (s.bx.map (fun x=>(x.1,x.2.strip i)))=some c→∃ c',lookN n s.bx=some c' ∧ c=c'.strip i:=by
  simp_all [lookN_map]
 refine ⟨by simpa using h.len,?_,?_,?_,?_,?_,?_,h.lps,h.dep,h.lpi,h.mo,h.mks,fun j hj=>h.owm j (hsub j hj),fun n c hn=>⟨(hvc n c hn).2,((h.vec n c (hvc n c hn).1).2).mono hst rfl rfl (fun _ _ _ _ _ hv=>hv) (fun b c T hc=>⟨c,hc,rfl⟩)⟩⟩
 ·intro k hk hk'
  have hk0:k<(({ rd:=s.rd,n:=s.n,ts:=s.ts }:Fr)::s.sv).length:=by grind
  have:=((h.fr k hk0 hk').stab hst).strip i
  grind
 ·intro n c hn
  obtain ⟨c',hc',rfl⟩:=hbx n c hn
  obtain ⟨cs,T,hb⟩:=h.box n c' hc'
  refine ⟨cs,T,hb.heap.strip,by rw [V.cells_strip,List.length_map];exact hb.size,fun k hk=>hb.leafs k (by grind [V.cells_strip]),fun k hk=>?_⟩
  have hk' : k<c'.cells.length:=by grind [V.cells_strip]
  have e:(c'.strip i).cells[k]=(c'.cells[k]).strip i:=by simp [V.cells_strip]
  rw [e]
  exact (hst.mono_rep (hb.rep k hk')).strip i
 ·intro n c n' c' hn hn' e
  obtain ⟨d,hd,_⟩:=hbx n c hn
  obtain ⟨d',hd',_⟩:=hbx n' c' hn'
  exact h.inj n d n' d' hd hd' e
 ·exact fun j hj hne=>h.oww j (hsub j hj) hne
 ·exact fun j hj k hk h1 h2 e=>h.owx j (hsub j hj) k (hsub k hk) h1 h2 e
 ·intro j hj hne n c hn
  obtain ⟨d,hd,_⟩:=hbx n c hn
  exact h.owb j (hsub j hj) hne n d hd
theorem Rel.strip {Mo m s as w} (h:Rel Mo m s as w) (i:Name):Rel Mo m (s.strip i) as w :=
 h.dropOw i _ (fun j hj=>(List.mem_filter.1 hj).1) _ (fun n c hn=>by
  rw [lookN_filter (q:=fun j=>j != i)] at hn
  split at hn
  ·rename_i e
   exact ⟨hn,List.mem_filter.2 ⟨(h.vec n c hn).1,e⟩⟩
  grind)
theorem Sa.strip_ow {s:Sa} {i:Name}:i ∉ (s.strip i).ow:=by simp [Sa.strip]
theorem Sa.strip_all (s:Sa) (i:Name):AllV (fun v=>i ∉ v.ows) (s.strip i):=by
 refine ⟨fun t=>?_,fun f hf t=>?_,fun n c hn=>?_⟩
 ·simp only [Sa.strip]
  rw [look_mapT _ (by rfl)]
  exact fun hx=>(V.ows_strip i _ i hx).2 rfl
 ·simp only [Sa.strip,List.mem_map] at hf
  obtain ⟨f',_,rfl⟩:=hf
  rw [look_mapT _ (by rfl)]
  exact fun hx=>(V.ows_strip i _ i hx).2 rfl
 ·simp only [Sa.strip] at hn
  rw [lookN_map] at hn
  cases hc:lookN n s.bx with
  | none=>grind
  | some c'=>simp [hc] at hn;subst hn;exact fun hx=>(V.ows_strip i _ i hx).2 rfl
theorem mut_strip {s:Sa} {i:Name} {m b o} (hm:Mut (s.strip i).bx (s.strip i).ow m b o):Mut s.bx s.ow m b o:=by
 simp only [Sa.strip] at hm
 rcases hm with ⟨n,c,hn,e⟩ | ⟨j,hj,h2⟩
 ·rw [lookN_map] at hn
  cases hc:lookN n s.bx with
  | none=>grind
  | some c'=>exact .inl ⟨n,c',hc,e⟩
 ·exact .inr ⟨j,(List.mem_filter.1 hj).1,h2⟩
theorem Step.strip {m s w m' s' w'} (i:Name) (h:Step m s w m' s' w'):Step m s w m' (s'.strip i) w' :=
 ⟨h.keeps,fun b o hb hm=>h.mt b o hb (mut_strip hm),fun b hb hl=>h.lp b hb hl,h.rd,by rw [← h.svrd];simp [Sa.strip,List.map_map,Function.comp_def],h.lpm⟩
theorem Rel.own {Mo m s as w} (h:Rel Mo m s as w) (i:Name) (reg:Nat×Nat×Nat) (hi:i ∉ s.ow) (hno:AllV (fun v=>i ∉ v.ows) s)
  (hreg:nonempty reg→(∃ c T,w.heap[reg.1]? = some (.cells c T (0,0))∧reg.2.2≤c.size) ∧
   (∀ j∈s.ow,nonempty (m.ow j)→(m.ow j).1≠reg.1)∧(∀ n c,lookN n s.bx=some c→reg.1≠m.bx n)∧∀ o,¬ Mo reg.1 o)
  (hst:Stab w (Tot Mo s.bx s.ow m) w (Tot Mo s.bx (i::s.ow) { m with ow:=fun j=>if j=i then reg else m.ow j })) :
  Rel Mo { m with ow:=fun j=>if j=i then reg else m.ow j } { s with ow:=i::s.ow } as w:=by
 have hne:∀ j∈s.ow,j≠i:=fun j hj e=>hi (e ▸ hj)
 have hall:∀ v:V,i ∉ v.ows→(∀ n∈v.bxs,m.bx n=m.bx n) ∧
   (∀ j∈v.ows,∀ sz x,Spare w m j sz x→Spare w { m with ow:=fun j=>if j=i then reg else m.ow j } j sz x)∧(∀ l∈v.lps,m.lp l=m.lp l):=fun v hv =>
  ⟨fun _ _=>rfl,fun j hj sz x hs=>spare_heap hs (by grind) (fun _ _ h=>h),fun _ _=>rfl⟩
 refine h.remap (s':={ s with ow:=i::s.ow }) rfl rfl rfl rfl rfl hst ⟨fun t=>hall _ (hno.ts t),fun f hf t=>hall _ (hno.sv f hf t),fun n c hn=>hall _ (hno.bx n c hn)⟩
  (Nat.le_refl _) (fun _ _ h _=>h) (fun _ _ _=>rfl) ?_ h.inj ?_ ?_ ?_ (fun j hj hn=>by
   rcases List.mem_cons.1 hj with e | hj
   ·grind
   ·simp only [hne j hj,if_false] at hn ⊢; exact h.owm j hj hn)
  (fun n c hn=>⟨List.mem_cons_of_mem _ (h.vec n c hn).1,(h.vec n c hn).2.mono hst rfl (by simp [hne n (h.vec n c hn).1]) (fun _ _ _ _ _ hv=>hv) (fun b c T hc=>⟨c,hc,rfl⟩)⟩)
 ·intro n c hn
  obtain ⟨cs,T,hb⟩:=h.box n c hn
  refine ⟨cs,T,hb.heap,hb.size,hb.leafs,fun k hk=>?_⟩
  have hc:=hall _ (hno.bx n c hn)
  exact (hb.rep k hk).mono hst (fun _ _=>rfl) (fun j hj=>hc.2.1 j (ows_cells c k hk j hj)) (fun _ _=>rfl)
 ·intro j hj hn
  rcases List.mem_cons.1 hj with rfl | hj
  ·grind
  ·simp only [hne j hj,if_false] at hn ⊢; exact h.oww j hj hn
 ·intro j hj k hk h1 h2 e
  rcases List.mem_cons.1 hj with hj1 | hj1 <;> rcases List.mem_cons.1 hk with hk1 | hk1
  ·grind
  ·grind
  ·grind
  ·simp only [hne j hj1,hne k hk1,if_false] at h1 h2 e;exact h.owx j hj1 k hk1 h1 h2 e
 ·intro j hj hn n c hc
  rcases List.mem_cons.1 hj with rfl | hj
  ·grind
  ·simp only [hne j hj,if_false] at hn ⊢; exact h.owb j hj hn n c hc
theorem repD_nil {w M}:RepD w M (.sl []) (.slice none 0 0) :=
 RepD.sl (xs:=[]) (a:=none) (cap:=0) 0 0 0 (fun _ _=>undef) (by simp) (by simp) (by simp) (by simp) (by simp) (by simp)
theorem tot_empty {Mo bx ow m i} {b o:Nat} (h:Tot Mo bx (i::ow) { m with ow:=fun j=>if j=i then (0,0,0) else m.ow j } b o):Tot Mo bx ow m b o:=by
 rcases h with h | h | ⟨j,hj,h1,h2,h3⟩
 ·grind
 ·exact .inr (.inl h)
 ·by_cases e:j=i
  ·grind
  ·simp only [e,if_false] at h1 h2 h3
   rcases List.mem_cons.1 hj with e' | hj
   ·grind
   ·exact .inr (.inr ⟨j,hj,h1,h2,h3⟩)
theorem Rel.claim {Mo m s as w} (h:Rel Mo m s as w) {v:V} {c:Value} (hv:RepV w (Tot Mo s.bx s.ow m) m v c) (i:Name) (sz:Option Nat) :
  ∃ m',Rel Mo m' (s.claim i sz v).2 as w∧RepV w (Tot Mo (s.claim i sz v).2.bx (s.claim i sz v).2.ow m') m' (s.claim i sz v).1 c ∧
   Step m s w m' (s.claim i sz v).2 w∧m'.bx=m.bx∧m'.lp=m.lp∧(s.claim i sz v).2.rd=s.rd∧(s.claim i sz v).2.n=s.n:=by
 by_cases hc:∃ z,v = .nil∧sz=some z
 ·obtain ⟨z,rfl,rfl⟩:=hc
  cases hv
  simp only [Sa.claim]
  have h1:=(h.strip i).own i (0,0,0) Sa.strip_ow (Sa.strip_all s i) (fun hn=>absurd hn (by simp [nonempty])) (fun b o c hcell hm=>⟨hcell,fun hx=>hm (tot_empty hx)⟩)
  refine ⟨_,h1,.own repD_nil (by simp) (by simp [Spare]),?_,rfl,rfl,rfl,rfl⟩
  refine ⟨.of_below (Below.refl _ _),fun b o _ hm=>?_,fun b _ hl=>hl,rfl,by simp [Sa.strip,List.map_map,Function.comp_def],fun _ _=>⟨rfl,fun _ _=>rfl⟩⟩
  have:=tot_empty (Mo:=fun _ _=>False) (.inr hm)
  rcases this with h0 | h0
  ·grind
  ·exact mut_strip h0
 ·have e:s.claim i sz v=(v,s):=by
   simp_all [Sa.claim]
  grind [Step.refl]
end Go.Ab
namespace Go.Ab
open Go Go.RowKit
variable {P:Program} {w:World}
theorem info_of_underlying {t:TypeId} {d:TypeDesc} (h:P.underlying t=some d):∃ i,P.info? t=some i:=by
 grind [Program.underlying]
theorem run_sizeOf' {t:TypeId} {d:TypeDesc} (h:P.underlying t=some d):(sizeOf t).run P w = .ok (tsz P t) w:=by
 obtain ⟨i,hi⟩:=info_of_underlying h
 simp [sizeOf,typeInfo,hi,tsz]
theorem tagg_underlying {t:TypeId} {b:Bool} (h:tagg P t=some b):∃ d,P.underlying t=some d∧(b=true↔((∃ f,d = .struct f)∨∃ n e,d = .array n e)):=by
 grind [tagg]
theorem run_isAgg {t:TypeId} {b:Bool} (h:tagg P t=some b):(isAgg t).run P w = .ok b w:=by
 obtain ⟨d,hd,hb⟩:=tagg_underlying h
 simp only [isAgg,Sem.run_bind,run_underlying hd,Result.andThen_ok]
 cases d <;> cases b <;> simp_all
theorem leaf_oneCell {v:Value} (h:leaf v=true):v.oneCell' = true:=by
 cases v <;> simp_all [leaf,Value.oneCell']
theorem addr_add (b off i:Nat):(⟨b,off,none⟩:Addr).add i=⟨b,off+i,none⟩:=by
 grind [Addr.add]
theorem run_loadVar {t:TypeId} {ag:Bool} {b off:Nat} (f:Nat→Value) (h:tagg P t=some ag) (hsz:ag=false→tsz P t≠0)
  (hc:∀ j,j<tsz P t→w.cell? ⟨b,off+j,none⟩=some (f j)) :
  (loadVar t ⟨b,off,none⟩).run P w = .ok (if ag then .agg ((List.range (tsz P t)).map f).toArray else f 0) w:=by
 obtain ⟨d,hd,_⟩:=tagg_underlying h
 simp only [loadVar,Sem.run_bind,run_isAgg h,Result.andThen_ok]
 cases ag with
 | true =>
  simp_all [run_sizeOf',run_loadCells,addr_add]
 | false =>
  grind [run_load]
def putCells (w:World) (b off:Nat):List Value→World
 | []=>w
 | v::vs=>putCells (w.setCell ⟨b,off,none⟩ v) b (off+1) vs
theorem setCell_block {b off:Nat} {v:Value} {c:Array Value} {T:TypeId} (h:w.heap[b]? = some (.cells c T (0,0))) :
  (w.setCell ⟨b,off,none⟩ v).heap[b]? = some (.cells (c.setIfInBounds off v) T (0,0)):=by
 simp [World.setCell,Array.getElem?_modify,h]
theorem setCell_other {b off k:Nat} {v:Value} (h:k≠b):(w.setCell ⟨b,off,none⟩ v).heap[k]? = w.heap[k]?:=Below.heap_setCell w ⟨b,off,none⟩ v k h
theorem cell_of_block {b o:Nat} {c:Array Value} {T:TypeId} {f:Nat×Nat} (h:w.heap[b]? = some (.cells c T f)):w.cell? ⟨b,o,none⟩=c[o]?:=by
 simp [World.cell?,h]
theorem frozen_of_block {b o:Nat} {c:Array Value} {T:TypeId} (h:w.heap[b]? = some (.cells c T (0,0))):w.frozen? ⟨b,o,none⟩=false:=by
 simp [World.frozen?,h]
theorem run_storeCells (vs:List Value) (hl:∀ v∈vs,leaf v=true):∀ (w:World) (b off i:Nat) (c:Array Value) (T:TypeId),
  w.heap[b]? = some (.cells c T (0,0))→off+i+vs.length≤c.size →
  (storeCells ⟨b,off,none⟩ vs i).run P w = .ok () (putCells w b (off+i) vs):=by
 induction vs with
 | nil=>simp_all [storeCells,putCells]
 | cons v vs ih =>
  intro w b off i c T hb hle
  simp only [List.length_cons] at hle
  simp only [storeCells,Sem.run_bind,addr_add,putCells]
  rw [run_store P w _ v .plain (leaf_oneCell (hl v (by simp)))]
  have hc:w.cell? ⟨b,off+i,none⟩=some (c[off+i]'(by omega)):=by
   rw [cell_of_block hb,Array.getElem?_eq_getElem]
  simp only [hc,frozen_of_block hb,Bool.false_eq_true,if_false,Result.andThen_ok]
  rw [ih (fun v hv=>hl v (by grind)) _ b off (i+1) _ T (setCell_block hb) (by grind)]
  rfl
theorem putCells_spec (vs:List Value):∀ (w:World) (b off:Nat) (c:Array Value) (T:TypeId),w.heap[b]? = some (.cells c T (0,0))→off+vs.length≤c.size →
  ∃ c',(putCells w b off vs).heap[b]? = some (.cells c' T (0,0))∧c'.size=c.size∧(∀ o,(o<off∨off+vs.length≤o)→c'[o]? = c[o]?) ∧
   (∀ j (hj:j<vs.length),c'[off+j]? = some vs[j])∧(∀ k,k≠b→(putCells w b off vs).heap[k]? = w.heap[k]?) ∧
   (putCells w b off vs).os=w.os∧(putCells w b off vs).tape=w.tape∧(putCells w b off vs).output=w.output∧(putCells w b off vs).heap.size=w.heap.size:=by
 induction vs with
 | nil=>intro w b off c T hb _;exact ⟨c,hb,rfl,fun _ _=>rfl,by simp,fun _ _=>rfl,rfl,rfl,rfl,rfl⟩
 | cons v vs ih =>
  intro w b off c T hb hle
  simp only [List.length_cons] at hle
  obtain ⟨c',h1,h2,h3,h4,h5,h6,h7,h8,h9⟩:=ih (w.setCell ⟨b,off,none⟩ v) b (off+1) _ T (setCell_block hb) (by grind)
  refine ⟨c',h1,by grind,fun o ho=>?_,fun j hj=>?_,fun k hk=>(h5 k hk).trans (setCell_other hk),h6,h7,h8,by rw [putCells,h9,World.size_setCell]⟩
  ·grind
  grind
theorem RepV.cells {M m v c} (h:RepV w M m v c) (hd:isCells v=true):c.cells.size=v.cells.length ∧
  (∀ i,i<v.cells.length→leaf (c.cells.getD i undef)=true)∧∀ i (hi:i<v.cells.length),RepV w M m v.cells[i] (c.cells.getD i undef):=by
 have one:∀ (v:V) (c:Value),RepV w M m v c→v.cells=[v]→c.cells = #[c]→leaf c=true→c.cells.size=v.cells.length ∧
   (∀ i,i<v.cells.length→leaf (c.cells.getD i undef)=true)∧∀ i (hi:i<v.cells.length),RepV w M m v.cells[i] (c.cells.getD i undef):=by
  simp_all
 cases h with
 | d h =>
  cases h with
  | v h=>exact one _ _ (.d (.v h)) rfl (by cases c <;> simp_all [okLeaf,Value.cells]) (by cases c <;> simp_all [okLeaf,leaf])
  | agg hs hl hr=>exact ⟨by grind [Value.cells,V.cells],fun i hi=>hl i (by simpa [V.cells] using hi),fun i hi=>by
    simp only [V.cells,List.getElem_map,Value.cells];exact .d (hr i (by simpa [V.cells] using hi))⟩
  | sl sz b off cv h1 h2 h3 h4 h5 h6=>exact one _ _ (.d (.sl sz b off cv h1 h2 h3 h4 h5 h6)) rfl rfl rfl
 | nil=>exact one _ _ .nil rfl rfl rfl
 | own h hsz hs =>
  refine one _ _ (.own h hsz hs) rfl ?_ ?_
  ·cases h;rfl
  ·cases h;rfl
 | ptr=>exact one _ _ .ptr rfl rfl rfl
 | mref=>exact one _ _ .mref rfl rfl rfl
 | ref b off cv h1 h2=>exact one _ _ (.ref b off cv h1 h2) rfl rfl rfl
 | @fn f cap vs hs h=>exact one _ _ (.fn hs h) rfl (by unfold fnV;split <;> rfl) (by unfold fnV;split <;> rfl)
 | yld=>exact one _ _ .yld rfl rfl rfl
 | agg hs hl h=>grind [Value.cells,V.cells]
 | tup hs h=>simp [isCells] at hd
 | vsl=>exact one _ _ .vsl rfl rfl rfl
 | vpt h=>exact one _ _ (.vpt h) rfl rfl rfl
 | dead=>simp [isCells] at hd
end Go.Ab
namespace Go.Ab
open Go Go.RowKit
def Shape (w w' : World):Prop:=∀ (b:Nat) (c:Array Value) (T:TypeId),w.heap[b]? = some (.cells c T (0,0))→∃ c',w'.heap[b]? = some (.cells c' T (0,0))∧c'.size=c.size
theorem Shape.of_below {w w' : World} (h:Below w.heap.size w w'):Shape w w':=fun _ c _ hb=>⟨c,heap_below h hb,rfl⟩
theorem spare_shape {w w' : World} {m m' : Mp} {i:Name} {sz:Nat} {v:Value} (h:Spare w m i sz v) (ho:m'.ow i=m.ow i) (hs:Shape w w'):Spare w' m' i sz v:=by
 unfold Spare at h ⊢
 split at h
 ·grind
 ·rw [ho]
  rcases h with h | ⟨h1,h2,h3,c,T,h4,h5⟩
  ·grind
  ·obtain ⟨c',h6,h7⟩:=hs _ _ _ h4
   grind
 grind
theorem below_alloc' (w:World) (o:Obj):Below w.heap.size w (w.alloc o):=(Below.refl _ _).alloc (Nat.le_refl _) o
theorem Rel.newBox {Mo m s as w} (h:Rel Mo m s as w) {v:V} {c:Value} (hv:RepV w (Tot Mo s.bx s.ow m) m v c) (hd:isCells v=true) (f:Name)
  (hpr:protd (rds s) f=false) (hr:AllV (fun v=>f ∉ v.bxs) s) (hn:lookN f s.bx=none) (hvb:f ∉ v.bxs) (T:TypeId) :
  Rel Mo { m with bx:=fun n=>if n=f then w.heap.size else m.bx n } { s with bx:=(f,v)::s.bx } as (w.alloc (.cells c.cells T)) ∧
   Step m s w { m with bx:=fun n=>if n=f then w.heap.size else m.bx n } { s with bx:=(f,v)::s.bx } (w.alloc (.cells c.cells T)):=by
 have hbl:=below_alloc' w (.cells c.cells T)
 have hlt:∀ n d,lookN n s.bx=some d→m.bx n<w.heap.size:=fun n d hd=>by
  obtain ⟨cs,T',hb⟩:=h.box n d hd
  exact hb.heap.lt
 have hne:∀ n d,lookN n s.bx=some d→n≠f:=fun n d hd e=>by grind
 have hst:Stab w (Tot Mo s.bx s.ow m) (w.alloc (.cells c.cells T)) (Tot Mo ((f,v)::s.bx) s.ow { m with bx:=fun n=>if n=f then w.heap.size else m.bx n }):=by
  intro b o x hx hm
  have hb:=World.block_lt_of_cell? w _ hx
  simp only at hb
  refine ⟨(stab_below _ hbl b o x hx hm).1,fun ht=>?_⟩
  rcases ht with ht | ⟨n,d,hl,e⟩ | ht
  ·grind
  ·simp only [lookN] at hl
   split at hl
   ·grind
   ·simp only [hne n d hl,if_false] at e
    exact hm (.inr (.inl ⟨n,d,hl,e⟩))
  ·exact hm (.inr (.inr ht))
 have hall:∀ x:V,f ∉ x.bxs→(∀ n∈x.bxs,(if n=f then w.heap.size else m.bx n)=m.bx n) ∧
   (∀ i∈x.ows,∀ sz y,Spare w m i sz y→Spare (w.alloc (.cells c.cells T)) { m with bx:=fun n=>if n=f then w.heap.size else m.bx n } i sz y)∧(∀ l∈x.lps,m.lp l=m.lp l):=fun x hx =>
  ⟨fun n hn'=>by grind,fun i _ sz y hs=>spare_shape hs rfl (.of_below hbl),fun _ _=>rfl⟩
 refine ⟨h.remap (s':={ s with bx:=(f,v)::s.bx }) rfl rfl rfl rfl rfl hst ⟨fun t=>hall _ (hr.ts t),fun g hg t=>hall _ (hr.sv g hg t),fun n d hd=>hall _ (hr.bx n d hd)⟩
  (by simp) (fun b o ho _=>heap_below hbl ho) (fun _ _ _=>rfl) ?_ ?_ ?_ h.owx ?_ h.owm (fun k d hk=>⟨(h.vec k d hk).1,(h.vec k d hk).2.mono hst rfl rfl (fun _ o v _ _ hv=>by rw [hbl.cell (p:=⟨_,o,none⟩) (World.block_lt_of_cell? w _ hv)];grind) (fun b c T hc=>⟨c,heap_below hbl hc,rfl⟩)⟩),?_⟩
 ·intro n d hl
  simp only [lookN] at hl
  by_cases e:f=n
  ·subst e
   simp only [if_true,Option.some.injEq] at hl
   subst hl
   obtain ⟨h1,_,h3⟩:=hv.cells hd
   refine ⟨c.cells,T,.mk (by grind [World.alloc_heap_new]) (by cases v <;> first | rfl | (simp [isCells] at hd)),h1,(hv.cells hd).2.1,fun i hi=>?_⟩
   have ha:=hall v hvb
   exact (h3 i hi).mono hst (fun k hk=>ha.1 k (bxs_cells v i hi k hk)) (fun k hk=>ha.2.1 k (ows_cells v i hi k hk)) (fun k hk=>rfl)
  ·simp only [e,if_false] at hl
   obtain ⟨cs,T',hb⟩:=h.box n d hl
   have ha:=hall d (hr.bx n d hl)
   refine ⟨cs,T',?_,hb.size,hb.leafs,fun i hi=>(hb.rep i hi).mono hst (fun k hk=>ha.1 k (bxs_cells d i hi k hk)) (fun k hk=>ha.2.1 k (ows_cells d i hi k hk)) (fun k hk=>rfl)⟩
   simp only [hne n d hl,if_false]
   exact hb.heap.mono (fun _ ho _ _=>heap_below hbl ho)
 ·intro n d n' d' hl hl' e
  simp only [lookN] at hl hl'
  by_cases e1:f=n <;> by_cases e2:f=n'
  ·grind
  ·grind
  ·grind
  ·simp only [e1,e2,if_false] at hl hl'
   simp only [hne n d hl,hne n' d' hl',if_false] at e
   exact h.inj n d n' d' hl hl' e
 ·intro i hi hn'
  obtain ⟨cs,T',h1,h2⟩:=h.oww i hi hn'
  grind [heap_below]
 ·intro i hi hn' n d hl
  simp only [lookN] at hl
  by_cases e:f=n
  ·obtain ⟨cs,T',h1,h2⟩:=h.oww i hi hn'
   grind
  ·simp only [e,if_false] at hl
   simp only [hne n d hl,if_false]
   exact h.owb i hi hn' n d hl
 ·refine ⟨.of_below hbl,fun b o hb hm=>?_,fun b _ hl=>hl,rfl,rfl,fun _ hl=>⟨rfl,fun n hn=>if_neg (protd_ne hpr hl n hn)⟩⟩
  rcases hm with ⟨n,d,hl,e⟩ | hm
  ·simp only [lookN] at hl
   split at hl
   ·grind
   ·simp only [hne n d hl,if_false] at e
    exact .inl ⟨n,d,hl,e⟩
  ·exact .inr hm
theorem Rel.storeBox {Mo m s as w} (h:Rel Mo m s as w) (f:Name) {c c' : V} (hf:lookN f s.bx=some c) (off:Nat) (vs:List Value)
  (hcm:c.isMpc=false) (hcm' : c'.isMpc=false) (hlv:∀ v∈vs,leaf v=true) (hle:off+vs.length≤c.cells.length) (hlen:c'.cells.length=c.cells.length)
  (hrep:∀ (cs cs' : Array Value),(∀ i (hi:i<c.cells.length),RepV w (Tot Mo s.bx s.ow m) m c.cells[i] (cs.getD i undef))→cs.size=c.cells.length→cs'.size=cs.size →
   (∀ o,(o<off∨off+vs.length≤o)→cs'[o]? = cs[o]?)→(∀ j (hj:j<vs.length),cs'[off+j]? = some vs[j]) →
   ∀ i (hi:i<c'.cells.length),RepV w (Tot Mo s.bx s.ow m) m c'.cells[i] (cs'.getD i undef)) :
  Rel Mo m { s with bx:=setN f c' s.bx } as (putCells w (m.bx f) off vs)∧Step m s w m { s with bx:=setN f c' s.bx } (putCells w (m.bx f) off vs):=by
 obtain ⟨cs,T,hb⟩:=h.box f c hf
 obtain ⟨cs',h1,h2,h3,h4,h5,h6,h7,h8,h9⟩:=putCells_spec vs w (m.bx f) off cs T (hb.heap.cells hcm) (by rw [hb.size];grind)
 have hlook:∀ n d,lookN n (setN f c' s.bx)=some d→(n=f∧d=c')∨(n≠f∧lookN n s.bx=some d):=by
  grind [lookN_setN]
 have hlook' : ∀ n d,lookN n s.bx=some d→∃ d',lookN n (setN f c' s.bx)=some d':=by
  grind [lookN_setN]
 have hmut:∀ b o,Mut (setN f c' s.bx) s.ow m b o↔Mut s.bx s.ow m b o:=by
  intro b o
  constructor
  ·rintro (⟨n,d,hl,e⟩ | hm)
   ·rcases hlook n d hl with ⟨rfl,_⟩ | ⟨_,hl'⟩
    ·exact .inl ⟨n,c,hf,e⟩
    ·exact .inl ⟨n,d,hl',e⟩
   ·exact .inr hm
  ·rintro (⟨n,d,hl,e⟩ | hm)
   ·obtain ⟨d',hd'⟩:=hlook' n d hl
    exact .inl ⟨n,d',hd',e⟩
   ·exact .inr hm
 have hst:Stab w (Tot Mo s.bx s.ow m) (putCells w (m.bx f) off vs) (Tot Mo (setN f c' s.bx) s.ow m):=by
  intro b o x hx hm
  have hne:b≠m.bx f:=fun e=>hm (.inr (.inl ⟨f,c,hf,e⟩))
  grind [World.cell?_of_block]
 have hsh:Shape w (putCells w (m.bx f) off vs):=by
  intro b d T' hd
  by_cases e:b=m.bx f
  ·subst e
   rw [hb.heap.cells hcm] at hd;grind
  grind
 have hall:∀ x:V,(∀ n∈x.bxs,m.bx n=m.bx n)∧(∀ i∈x.ows,∀ sz y,Spare w m i sz y→Spare (putCells w (m.bx f) off vs) m i sz y)∧(∀ l∈x.lps,m.lp l=m.lp l):=fun x =>
  ⟨fun _ _=>rfl,fun i _ sz y hs=>spare_shape hs rfl hsh,fun _ _=>rfl⟩
 refine ⟨h.remap (s':={ s with bx:=setN f c' s.bx }) rfl rfl rfl rfl rfl hst ⟨fun t=>hall _,fun g hg t=>hall _,fun n d hd=>hall _⟩
  (by grind) (fun b o ho hno=>?_) (fun _ _ _=>rfl) ?_ ?_ ?_ h.owx ?_ h.owm (fun k d hk=>⟨(h.vec k d hk).1,(h.vec k d hk).2.mono hst rfl rfl (fun hn o v _ _ hv=>by rw [World.cell?_of_block (w:=w) (h5 _ (h.owb k (h.vec k d hk).1 hn f c hf))];grind) hsh⟩),?_⟩
 ·have hne:b≠m.bx f:=fun e=>by subst e;rw [hb.heap.cells hcm] at ho;cases ho;exact hno _ _ _ rfl
  grind
 ·intro n d hl
  rcases hlook n d hl with ⟨rfl,rfl⟩ | ⟨hne,hl'⟩
  ·refine ⟨cs',T,.mk h1 hcm',by rw [h2,hb.size,hlen],fun i hi=>?_,fun i hi=>?_⟩
   ·by_cases ho:i<off∨off+vs.length≤i
    ·have:=hb.leafs i (by omega)
     rw [Array.getD_eq_getD_getElem?] at this ⊢
     rw [h3 i ho];exact this
    ·have h4':=h4 (i - off) (by omega)
     rw [show off+(i - off)=i from by omega] at h4'
     rw [Array.getD_eq_getD_getElem?,h4'];exact hlv _ (List.getElem_mem _)
   have:=hrep cs cs' hb.rep hb.size h2 h3 h4 i hi
   exact this.mono hst (fun _ _=>rfl) (fun i _ sz y hs=>spare_shape hs rfl hsh) (fun _ _=>rfl)
  ·obtain ⟨ds,T',hd⟩:=h.box n d hl'
   have hne' : m.bx n≠m.bx f:=fun e=>hne (h.inj n d f c hl' hf e)
   exact ⟨ds,T',hd.heap.mono (fun o ho _ _=>by rw [h5 _ hne'];exact ho),hd.size,hd.leafs,fun i hi=>(hd.rep i hi).mono hst (fun _ _=>rfl) (fun i _ sz y hs=>spare_shape hs rfl hsh) (fun _ _=>rfl)⟩
 ·intro n d n' d' hl hl' e
  have key:∀ n d,lookN n (setN f c' s.bx)=some d→∃ d',lookN n s.bx=some d':=fun n d hl=>by
   rcases hlook n d hl with ⟨rfl,_⟩ | ⟨_,hl'⟩
   ·exact ⟨c,hf⟩
   ·exact ⟨d,hl'⟩
  obtain ⟨x,hx⟩:=key n d hl
  obtain ⟨y,hy⟩:=key n' d' hl'
  exact h.inj n x n' y hx hy e
 ·intro i hi hn
  obtain ⟨d,T',hd,hle'⟩:=h.oww i hi hn
  obtain ⟨d',hd',hs'⟩:=hsh _ _ _ hd
  exact ⟨d',T',hd',by omega⟩
 ·intro i hi hn n d hl
  rcases hlook n d hl with ⟨rfl,_⟩ | ⟨_,hl'⟩
  ·exact h.owb i hi hn n c hf
  ·exact h.owb i hi hn n d hl'
 ·refine ⟨⟨h6,h7,h8,by rw [h9];exact Nat.le_refl _,fun b hb' hC _=>?_,fun b d T' g hd _=>?_⟩,fun b o _ hm=>(hmut b o).1 hm,fun b _ hl=>hl,rfl,rfl,fun _ _=>⟨rfl,fun _ _=>rfl⟩⟩
  ·exact h5 b (fun e=>hC 0 (.inl ⟨f,c,hf,e⟩))
  ·by_cases e:b=m.bx f
   ·subst e
    rw [hb.heap.cells hcm] at hd;cases hd
    exact ⟨cs',h1,h2,fun o ho=>absurd (.inl ⟨f,c,hf,rfl⟩) ho⟩
   ·exact ⟨d,by rw [h5 b e];exact hd,rfl,fun _ _=>rfl⟩
theorem Rel.reown {Mo m s as w w'} (h:Rel Mo m s as w) (i:Name) (reg:Nat×Nat×Nat) (hno:AllV (fun v=>i ∉ v.ows) s) (hvi:lookN i s.vc=none)
  (hcells:∀ j∈s.ow,j≠i→nonempty (m.ow j)→∀ o v,(m.ow j).2.1≤o→o<(m.ow j).2.2→w.cell? ⟨(m.ow j).1,o,none⟩=some v→w'.cell? ⟨(m.ow j).1,o,none⟩=some v)
  (hsh:Shape w w') (hnc:∀ (b:Nat) (o:Obj),w.heap[b]? = some o→(∀ c T f,o ≠ .cells c T f)→w'.heap[b]? = some o) (hsize:w.heap.size≤w'.heap.size)
  (hbx:∀ n c,lookN n s.bx=some c→w'.heap[m.bx n]? = w.heap[m.bx n]?)
  (hst:Stab w (Tot Mo s.bx s.ow m) w' (Tot Mo s.bx (i::s.ow.filter (fun j=>j != i)) { m with ow:=fun j=>if j=i then reg else m.ow j }))
  (hreg:nonempty reg→(∃ c T,w'.heap[reg.1]? = some (.cells c T (0,0))∧reg.2.2≤c.size) ∧
   (∀ j∈s.ow,j≠i→nonempty (m.ow j)→(m.ow j).1≠reg.1)∧(∀ n c,lookN n s.bx=some c→reg.1≠m.bx n)∧∀ o,¬ Mo reg.1 o) :
  Rel Mo { m with ow:=fun j=>if j=i then reg else m.ow j } { s with ow:=i::s.ow.filter (fun j=>j != i) } as w':=by
 have hmem:∀ j,j∈s.ow.filter (fun j=>j != i)→j∈s.ow∧j≠i:=fun j hj=>by grind
 have hall:∀ v:V,i ∉ v.ows→(∀ n∈v.bxs,m.bx n=m.bx n) ∧
   (∀ j∈v.ows,∀ sz x,Spare w m j sz x→Spare w' { m with ow:=fun j=>if j=i then reg else m.ow j } j sz x)∧(∀ l∈v.lps,m.lp l=m.lp l):=fun v hv =>
  ⟨fun _ _=>rfl,fun j hj sz x hs=>spare_shape hs (by grind) hsh,fun _ _=>rfl⟩
 refine h.remap (s':={ s with ow:=i::s.ow.filter (fun j=>j != i) }) rfl rfl rfl rfl rfl hst ⟨fun t=>hall _ (hno.ts t),fun f hf t=>hall _ (hno.sv f hf t),fun n c hn=>hall _ (hno.bx n c hn)⟩
  hsize hnc (fun _ _ _=>rfl) ?_ h.inj ?_ ?_ ?_ (fun j hj hn=>by
   rcases List.mem_cons.1 hj with e | hj
   ·grind
   ·have:=hmem j hj
    simp only [this.2,if_false] at hn ⊢; exact h.owm j this.1 hn)
  (fun k d hk=>by
   have hki:k≠i:=fun e=>by grind
   obtain ⟨g1,g2⟩:=h.vec k d hk
   exact ⟨List.mem_cons_of_mem _ (List.mem_filter.2 ⟨g1,by grind⟩),g2.mono hst rfl (by grind) (hcells k g1 hki) hsh⟩)
 ·intro n c hn
  obtain ⟨cs,T,hb⟩:=h.box n c hn
  refine ⟨cs,T,hb.heap.mono (fun o ho _ _=>by grind),hb.size,hb.leafs,fun k hk=>?_⟩
  have hc:=hall _ (hno.bx n c hn)
  exact (hb.rep k hk).mono hst (fun _ _=>rfl) (fun j hj=>hc.2.1 j (ows_cells c k hk j hj)) (fun _ _=>rfl)
 ·intro j hj hn
  rcases List.mem_cons.1 hj with e | hj
  ·grind
  ·have:=hmem j hj
   simp only [this.2,if_false] at hn ⊢
   obtain ⟨d,T,hd,hle⟩:=h.oww j this.1 hn
   obtain ⟨d',hd',hs'⟩:=hsh _ _ _ hd
   grind
 ·intro j hj k hk h1 h2 e
  rcases List.mem_cons.1 hj with hj1 | hj1 <;> rcases List.mem_cons.1 hk with hk1 | hk1
  ·grind
  ·grind
  ·grind
  ·have h3:=hmem j hj1
   have h4:=hmem k hk1
   simp only [h3.2,h4.2,if_false] at h1 h2 e;exact h.owx j h3.1 k h4.1 h1 h2 e
 ·intro j hj hn n c hc
  rcases List.mem_cons.1 hj with hj1 | hj1
  ·grind
  ·have:=hmem j hj1
   simp only [this.2,if_false] at hn ⊢; exact h.owb j this.1 hn n c hc
end Go.Ab
namespace Go.Ab
open Go Go.RowKit
variable {w:World} {M:Cells} {m:Mp}
theorem RepV.toD1 {v:V} {c:Value} {x:D} (h:RepV w M m v c) (hx:v.toD1=some x):RepD w M x c:=by
 cases h <;> simp [V.toD1] at hx
 ·grind
 ·subst hx;exact repD_nil
 grind
theorem RepV.asD {v:V} {c:Value} {x:D} (h:RepV w M m v c) (hx:v.asD=some x):RepD w M x c:=by
 cases h <;> simp [V.asD] at hx
 ·grind
 ·subst hx;exact repD_nil
theorem toDs_spec {f:V→Option D} {vs:List V} {ds:List D} (h:toDs f vs=some ds):ds.length=vs.length∧∀ i (h1:i<vs.length) (h2:i<ds.length),f vs[i]=some ds[i]:=by
 induction vs generalizing ds with
 | nil=>grind [toDs]
 | cons v vs ih =>
  grind [toDs]
theorem RepV.toD {v:V} {c:Value} {x:D} (h:RepV w M m v c) (hx:v.toD=some x):RepD w M x c:=by
 cases v with
 | agg cs =>
  simp only [V.toD,Option.map_eq_some_iff] at hx
  obtain ⟨ds,hds,rfl⟩:=hx
  obtain ⟨h1,h2⟩:=toDs_spec hds
  cases h with
  | agg hs hl hr=>exact .agg (by omega) (fun i hi=>hl i (by omega)) (fun i hi=>(hr i (by omega)).toD1 (h2 i (by omega) hi))
 | _=>exact h.toD1 (by simpa [V.toD] using hx)
theorem repV_mkAgg {cs:List V} {vs:Array Value} (hs:vs.size=cs.length) (hl:∀ i,i<cs.length→leaf (vs.getD i undef)=true)
  (h:∀ i (hi:i<cs.length),RepV w M m cs[i] (vs.getD i undef)):RepV w M m (mkAgg cs) (.agg vs):=by
 unfold mkAgg
 split
 ·rename_i ds hds
  obtain ⟨h1,h2⟩:=toDs_spec hds
  exact .d (.agg (by omega) (fun i hi=>hl i (by omega)) (fun i hi=>(h i (by omega)).toD1 (h2 i (by omega) hi)))
 ·exact .agg hs hl h
theorem mkAggB_cells (cs:List V) (hc:∀ v∈cs,isCells v=true→True:=fun _ _ _=>trivial):(mkAggB cs).cells.length=cs.length ∧
  ∀ i (hi:i<cs.length) (hi' : i<(mkAggB cs).cells.length) (v:Value),RepV w M m cs[i] v→RepV w M m (mkAggB cs).cells[i] v:=by
 unfold mkAggB
 split
 ·rename_i ds hds
  obtain ⟨h1,h2⟩:=toDs_spec hds
  refine ⟨by simp [V.cells,h1],fun i hi hi' v hv=>?_⟩
  simp only [V.cells,List.getElem_map]
  exact .d (hv.asD (h2 i hi (by omega)))
 ·exact ⟨rfl,fun i hi hi' v hv=>hv⟩
theorem getD_range_map (f:Nat→Value) (n i:Nat) (hi:i<n):(((List.range n).map f).toArray).getD i undef=f i:=by
 simp_all
theorem repV_loadBox {ag:Bool} {off sz:Nat} {c:V} {f:Nat→Value} (hle:off+sz≤c.cells.length) (hz:ag=false→sz≠0)
  (hl:∀ j,j<sz→leaf (f j)=true) (hf:∀ j (hj:j<sz),RepV w M m (c.cells[off+j]'(by omega)) (f j)) :
  RepV w M m (loadBox ag off sz c) (if ag then .agg ((List.range sz).map f).toArray else f 0):=by
 have hagg:RepV w M m (mkAgg ((c.cells.drop off).take sz)) (.agg ((List.range sz).map f).toArray):=by
  grind [repV_mkAgg,getD_range_map]
 have hdata:∀ ds:List D,c = .d (.agg ds)→∀ j,j<sz→∃ h:off+j<ds.length,RepD w M ds[off+j] (f j):=by
  intro ds e j hj
  subst e
  have h1:off+j<ds.length:=by simp [V.cells] at hle;omega
  refine ⟨h1,?_⟩
  have:=hf j hj
  simp only [V.cells,List.getElem_map] at this
  cases this;grind
 cases ag with
 | true =>
  simp only [if_true]
  by_cases hd:∃ ds,c = .d (.agg ds)
  ·obtain ⟨ds,rfl⟩:=hd
   simp only [loadBox]
   split
   ·rename_i h0
    refine .d (.agg (by grind) (fun i hi=>?_) (fun i hi=>?_))
    ·simp_all
    grind [getD_range_map]
   ·have hlen:((ds.drop off).take sz).length=sz:=by grind [V.cells]
    refine .d (.agg (by grind) (fun i hi=>?_) (fun i hi=>?_))
    ·simp_all
    grind [getD_range_map]
  simp_all [loadBox]
 | false =>
  simp only [Bool.false_eq_true,if_false]
  have h0:0<sz:=Nat.pos_of_ne_zero (hz rfl)
  by_cases hd:∃ ds,c = .d (.agg ds)
  ·obtain ⟨ds,rfl⟩:=hd
   obtain ⟨h1,h2⟩:=hdata ds rfl 0 h0
   simp only [loadBox]
   rw [List.getElem?_eq_getElem (by grind)]
   exact .d h2
  ·have e:loadBox false off sz c=(c.cells[off]?).getD .dead:=by
    simp_all [loadBox]
   grind
theorem repV_takeD {ag:Bool} {sz:Nat} {cs:List D} {f:Nat→Value} (hle:sz≤cs.length) (hz:ag=false→sz≠0)
  (hl:∀ j,j<sz→leaf (f j)=true) (hf:∀ j (hj:j<cs.length),RepD w M cs[j] (f j)) :
  RepV w M m (takeD ag sz cs) (if ag then .agg ((List.range sz).map f).toArray else f 0):=by
 cases ag with
 | true =>
  simp only [if_true,takeD]
  split
  ·rename_i h0
   refine .d (.agg (by grind) (fun i hi=>?_) (fun i hi=>?_))
   ·simp_all
   grind [getD_range_map]
  ·have hlen:(cs.take sz).length=sz:=by grind
   refine .d (.agg (by grind) (fun i hi=>?_) (fun i hi=>?_))
   ·simp_all
   grind [getD_range_map]
 | false =>
  simp only [Bool.false_eq_true,if_false,takeD]
  have h0:0<sz:=Nat.pos_of_ne_zero (hz rfl)
  cases cs with
  | nil=>grind
  | cons x xs=>exact .d (hf 0 (by simp))
theorem storeBox_spec {off:Nat} {x c:V} (hle:off+x.cells.length≤c.cells.length):(storeBox off x c).cells.length=c.cells.length ∧
  ∀ i (hi:i<(storeBox off x c).cells.length) (v:Value),
   ((i<off∨off+x.cells.length≤i)→∀ h:i<c.cells.length,RepV w M m c.cells[i] v→RepV w M m (storeBox off x c).cells[i] v) ∧
   (∀ h:off≤i∧i<off+x.cells.length,RepV w M m (x.cells[i - off]'(by omega)) v→RepV w M m (storeBox off x c).cells[i] v):=by
 have hcat:∀ {α:Type} (l y:List α),off+y.length≤l.length→(l.take off++y++l.drop (off+y.length)).length=l.length ∧
   ∀ i (hi:i<(l.take off++y++l.drop (off+y.length)).length),((i<off∨off+y.length≤i)→∀ h:i<l.length,(l.take off++y++l.drop (off+y.length))[i]=l[i]) ∧
    (∀ h:off≤i∧i<off+y.length,(l.take off++y++l.drop (off+y.length))[i]=y[i - off]'(by omega)):=by
  intro α l y hy
  refine ⟨by simp;omega,fun i hi=>⟨fun ho h=>?_,fun h=>?_⟩⟩
  ·rcases ho with ho | ho
   ·rw [List.getElem_append_left (by simp;omega),List.getElem_append_left (by simp;omega)];simp
   ·rw [List.getElem_append_right (by simp;omega)]
    simp only [List.length_append,List.length_take,List.getElem_drop]
    congr 1;omega
  ·rw [List.getElem_append_left (by simp;omega),List.getElem_append_right (by simp;omega)]
   simp only [List.length_take]
   congr 1;omega
 unfold storeBox
 split
 ·rename_i h0
  refine ⟨h0.2,fun i hi v=>⟨fun ho h hv=>by omega,fun h hv=>?_⟩⟩
  have e:i - off=i:=by omega
  simpa only [e] using hv
 ·split
  ·rename_i d ds _
   have hds:(V.d (D.agg ds)).cells.length=ds.length:=by simp [V.cells]
   have hxl:(V.d d).cells.length=d.cells.length:=by cases d <;> simp [V.cells,D.cells]
   have hxc:∀ j (h1:j<(V.d d).cells.length) (h2:j<d.cells.length),(V.d d).cells[j] = .d (d.cells[j]):=by
    intro j h1 h2;cases d <;> simp [V.cells,D.cells] <;> rfl
   rw [hxl,hds] at hle
   obtain ⟨k1,k2⟩:=hcat ds d.cells hle
   refine ⟨by simp only [V.cells,List.length_map];exact k1,fun i hi v=>?_⟩
   simp only [V.cells,List.length_map] at hi
   refine ⟨fun ho h hv=>?_,fun h hv=>?_⟩
   ·rw [hxl] at ho
    simp only [V.cells,List.length_map] at h
    simp only [V.cells,List.getElem_map] at hv ⊢
    rw [(k2 i hi).1 ho h];exact hv
   ·rw [hxl] at h
    rw [hxc _ (by rw [hxl];omega) (by omega)] at hv
    simp only [V.cells,List.getElem_map]
    rw [(k2 i hi).2 h];exact hv
  ·obtain ⟨k1,k2⟩:=hcat c.cells x.cells hle
   obtain ⟨j1,j2⟩:=mkAggB_cells (w:=w) (M:=M) (m:=m) (c.cells.take off++x.cells++c.cells.drop (off+x.cells.length))
   refine ⟨by rw [j1,k1],fun i hi v=>?_⟩
   have hi1:i<(c.cells.take off++x.cells++c.cells.drop (off+x.cells.length)).length:=by rw [← j1];exact hi
   refine ⟨fun ho h hv=>j2 i hi1 hi v (by rw [(k2 i hi1).1 ho h];exact hv),fun h hv=>j2 i hi1 hi v (by rw [(k2 i hi1).2 h];exact hv)⟩
end Go.Ab
namespace Go.Ab
open Go Go.RowKit
variable {w:World} {M:Cells} {m:Mp}
theorem RepV.val {x c:Value} (h:RepV w M m (.d (.v x)) c):c=x∧okLeaf x:=by
 cases h with | d h=>cases h with | v h=>grind
theorem RepV.ptr_inv {nm:Name} {off:Nat} {c:Value} (h:RepV w M m (.ptr nm off) c):c = .pointer (some ⟨m.bx nm,off,none⟩):=by
 cases h;rfl
theorem RepV.vpt_inv {nm:Name} {off:Nat} {c:Value} (h:RepV w M m (.vpt nm off) c):∃ b o,(m.vl nm).1=some ⟨b,o,none⟩∧c = .pointer (some ⟨b,o+off,none⟩):=by
 cases h with | vpt h=>grind
theorem RepV.vsl_inv {nm:Name} {c:Value} (h:RepV w M m (.vsl nm) c):c = .slice (m.vl nm).1 (m.vl nm).2.1 (m.vl nm).2.2:=by
 cases h;rfl
theorem RepV.ref_inv {cs:List D} {c:Value} (h:RepV w M m (.ref cs) c):∃ (b off:Nat) (cv:Nat→Value),c = .pointer (some ⟨b,off,none⟩) ∧
  (∀ j (hj:j<cs.length),w.cell? ⟨b,off+j,none⟩=some (cv j)∧leaf (cv j)=true∧¬ M b (off+j))∧∀ j (hj:j<cs.length),RepD w M cs[j] (cv j):=by
 cases h with | ref b off cv h1 h2=>exact ⟨b,off,cv,rfl,h1,h2⟩
theorem RepV.tup_inv {vs:List V} {c:Value} (h:RepV w M m (.tup vs) c):∃ cs,c = .tuple cs∧cs.size=vs.length∧∀ i (hi:i<vs.length),RepV w M m vs[i] (cs.getD i undef):=by
 cases h with | tup h1 h2=>grind
theorem RepV.fn_inv {f:FuncId} {cap:List V} {c:Value} (h:RepV w M m (.fn f cap) c):∃ cs,c=fnV f cs∧cs.size=cap.length∧∀ i (hi:i<cap.length),RepV w M m cap[i] (cs.getD i undef):=by
 cases h with | fn h1 h2=>exact ⟨_,rfl,h1,h2⟩
theorem fnV_lt {f:FuncId} {vs:Array Value} (h:f<fnB):fnV f vs = .func (.func f) #[] vs:=if_pos h
theorem fnV_ge {f:FuncId} {vs:Array Value} (h : ¬ f<fnB):fnV f vs = .func (.func (f - fnB)) vs #[]:=if_neg h
theorem RepV.yld_inv {l:Name} {c:Value} (h:RepV w M m (.yld l) c):c = .func (.yield (m.lp l)) #[] #[]:=by
 cases h;rfl
theorem RepV.slice {v:V} {c:Value} {xs:List D} (h:RepV w M m v c) (hs:sliceOf v=some xs):RepD w M (.sl xs) c:=by
 cases h <;> simp [sliceOf] at hs
 ·grind
 ·subst hs;exact repD_nil
 grind
theorem RepV.int {v:V} {c:Value} {i:Int} (h:RepV w M m v c) (hi:intOfV v=some i):∃ q,c = .int q i:=by
 cases h <;> simp [intOfV] at hi
 rename_i x h
 cases h with
 | v h =>
  cases c <;> simp at hi
  grind
 | _=>grind
theorem RepD.sl_inv {xs:List D} {c:Value} (h:RepD w M (.sl xs) c):∃ (a:Option Addr) (cap sz b off:Nat) (cv:Nat→Nat→Value),c = .slice a xs.length cap∧xs.length≤cap∧xs.length≤9223372036854775807 ∧
   (xs≠[]→a=some ⟨b,off,none⟩)∧(∀ i (hi:i<xs.length),xs[i].cells.length=sz) ∧
   (∀ i (hi:i<xs.length) j (hj:j<xs[i].cells.length),w.cell? ⟨b,off+i * sz+j,none⟩=some (cv i j)∧leaf (cv i j)=true∧¬ M b (off+i * sz+j)) ∧
   (∀ i (hi:i<xs.length) j (hj:j<xs[i].cells.length),RepD w M (xs[i].cells)[j] (cv i j)):=by
 cases h with | sl sz b off cv h1 h2 h3 h4 h5 h6=>exact ⟨_,_,sz,b,off,cv,rfl,h1,h2,h3,h4,h5,h6⟩
end Go.Ab
namespace Go.Ab
open Go Go.RowKit
def Wd (r:Option Nat):Fence:={ Fence.wide with round:=r }
def rdN:Option Name→Option Name
 | some l=>if isH l then none else some l
 | none=>none
theorem rdN_map {α:Type} {f g:Name→α} {r:Option Name} (h:∀ l,r=some l→f l=g l):(rdN r).map f=(rdN r).map g:=by
 cases r with
 | none=>rfl
 | some l =>
  show (if isH l then none else some l).map f=(if isH l then none else some l).map g
  split
  ·rfl
  ·simp [h l rfl]
theorem rdN_some {l:Name} (h:isH l=false):rdN (some l)=some l:=by simp [rdN,h]
def rdOf (m:Mp) (s:Sa):Option Nat:=(rdN s.rd).map m.lp
def ArgsOK (w:World) (M:Cells) (m:Mp) (args:List V) (vs:Array Value):Prop :=
 vs.size=args.length∧∀ i (hi:i<args.length),RepV w M m args[i] (vs.getD i undef)
def CallPost (Mo:Cells) (m:Mp) (s:Sa) (as:List Act) (w:World) (k:V→Sa→Prop) (e:Ending) (w' : World):Prop :=
 ∃ c v m' s',e = .returned c∧k v s' ∧ Rel Mo m' s' as w' ∧ RepV w' (Tot Mo s'.bx s'.ow m') m' v c∧Step m s w m' s' w' ∧ rdOf m' s' = rdOf m s
def TCall (P:Program) (_p:Name) (f:FuncId) (args:List V) (s:Sa) (k:V→Sa→Prop):Prop :=
 ∀ Mo m as w n vs r,Rel Mo m s as w→ArgsOK w (Tot Mo s.bx s.ow m) m args vs →
  CallsIn (Wd r) n P f vs w (CallPost Mo m s as w k)
def panicOf (t:TypeId) (c:Value):List PanicEntry:=[{ v:=.iface t c,recovered:=false }]
def ThrPost (Mo:Cells) (m:Mp) (s:Sa) (as:List Act) (w:World) (kt:TypeId→V→Sa→Prop) (e:Ending) (w' : World):Prop :=
 ∃ t c v m' s',e = .panicked (panicOf t c)∧kt t v s' ∧ Rel Mo m' s' as w' ∧ RepV w' (Tot Mo s'.bx s'.ow m') m' v c∧Step m s w m' s' w' ∧ rdOf m' s' = rdOf m s
def TCallT (P:Program) (kt:TypeId→V→Sa→Prop) (_p:Name) (f:FuncId) (args:List V) (s:Sa) (k:V→Sa→Prop):Prop :=
 ∀ Mo m as w n vs r,Rel Mo m s as w→ArgsOK w (Tot Mo s.bx s.ow m) m args vs →
  CallsIn (Wd r) n P f vs w fun e w'=>CallPost Mo m s as w k e w' ∨ ThrPost Mo m s as w kt e w'
theorem TCall.toT {P:Program} {kt:TypeId→V→Sa→Prop} {p:Name} {f:FuncId} {args:List V} {s:Sa} {k:V→Sa→Prop} (h:TCall P p f args s k):TCallT P kt p f args s k :=
 fun Mo m as w n vs r hR ha=>(h Mo m as w n vs r hR ha).mono fun _ _ hp=>.inl hp
def TYld (P:Program) (_p:Name) (l:Name) (args:List V) (s:Sa) (k:V→Sa→Prop):Prop :=
 ∀ Mo m as w n vs r,Rel Mo m s as w→ArgsOK w (Tot Mo s.bx s.ow m) m args vs →
  ∃ rec:Loop,w.heap[m.lp l]? = some (.loop rec)∧vs.size=rec.params.size ∧
   RoundIn (Wd r) n P (m.lp l) rec.fn ((rec.params.zip vs).foldl (fun tmps (t,a)=>tmps.setIfInBounds t a) rec.tmps) rec.assign rec.body w (CallPost Mo m s as w k)
def exOf:Exit→Option Ex
 | .normal=>some .norm
 | .exit i=>some (.exit i)
 | .ret=>some .ret
 | .panic [⟨.iface t _,false,false⟩]=>some (.thr t)
 | _=>none
def actX:Exit→Act→Act
 | .panic [⟨.iface _ c,false,false⟩],a=>{ a with tmps:=a.tmps.push c }
 | _,a=>a
theorem exOf_panic {ch:List PanicEntry} {x:Ex} (h:exOf (.panic ch)=some x):∃ t c,ch=panicOf t c∧x = .thr t:=by
 unfold exOf at h
 split at h <;> cases h
 ·rename_i e;cases e
 ·rename_i e;cases e
 ·rename_i e;cases e
 ·rename_i t c e;cases e;exact ⟨t,c,rfl,rfl⟩
def NewMarks (ds:List Deferred) (w:World) (ds' : List Deferred):Prop:=∃ l,ds' = l++ds∧∀ d∈l,∃ r,d={ target:=.collected r,args:=#[] }∧w.heap.size≤r
theorem NewMarks.trans {ds ds' ds2:List Deferred} {w w' : World} (h:NewMarks ds w ds') (hs:w.heap.size≤w'.heap.size) (h2:NewMarks ds' w' ds2):NewMarks ds w ds2:=by
 obtain ⟨l,rfl,h⟩:=h
 obtain ⟨l2,rfl,h2⟩:=h2
 refine ⟨l2++l,by simp,fun d hd=>?_⟩
 rcases List.mem_append.1 hd with hd | hd
 ·obtain ⟨r,e,hr⟩:=h2 d hd;exact ⟨r,e,Nat.le_trans hs hr⟩
 ·exact h d hd
theorem NewMarks.nil {w:World} {ds:List Deferred} (h:NewMarks [] w ds):∀ d∈ds,∃ r,d={ target:=.collected r,args:=#[] }∧w.heap.size≤r:=by
 obtain ⟨l,rfl,h⟩:=h
 simpa using h
def CodePost (Mo:Cells) (m:Mp) (s:Sa) (ds:List Deferred) (sv:List Act) (w:World) (Q:Ex→Sa→Prop) (e:Exit) (a' : Act) (w' : World):Prop :=
 ∃ x m' s',exOf e=some x∧Q x s' ∧ Rel Mo m' s' (actX e a' :: sv) w' ∧ Step m s w m' s' w' ∧ rdOf m' s' = rdOf m s∧NewMarks ds w a'.defers
def TC (P:Program) (_p:Name) (c:Code) (s:Sa) (Q:Ex→Sa→Prop):Prop :=
 ∀ Mo m a sv w n,Rel Mo m s (a::sv) w→c.wpIn (Wd (rdOf m s)) n P (CodePost Mo m s a.defers sv w Q) a w
def semsT (P:Program) (kt:TypeId→V→Sa→Prop):Sems:={ thr:=kt,call:=TCallT P kt,yld:=TYld P,code:=TC P }
def noThr:TypeId→V→Sa→Prop:=fun _ _ _=>False
abbrev sems (P:Program):Sems:=semsT P noThr
def OpNext (Mo:Cells) (m:Mp) (s:Sa) (dst:Option Tmp) (a:Act) (sv:List Act) (w:World) (k:Sa→Prop) (K:Act→World→Prop):Prop :=
 ∀ m' s' v w',k s' → Rel Mo m' s' (a.put dst v::sv) w' → Step m s w m' s' w' → rdOf m' s' = rdOf m s→K (a.put dst v) w'
variable {P:Program} {o:Oper} {a:Act} {w:World} {K:Act→World→Prop} {Q:Exit→Act→World→Prop} {r:Option Nat} {n:Nat}
theorem op_value {w' : World} {v:Value} (hnd:∀ c,o.op ≠ .defer c) (hrun:(execOp a.eval o).run P w = .ok (.value v) w') (hK:K (a.put o.dst v) w'):o.wpIn (Wd r) n P a w K Q :=
 ⟨fun _ _=>trivial,by rw [show (Wd r).round=r from rfl,Oper.semAt_eq _ _ _ hnd,hrun];exact hK⟩
theorem op_skip {w' : World} (hnd:∀ c,o.op ≠ .defer c) (hrun:(execOp a.eval o).run P w = .ok .skip w') (hK:K (a.put o.dst undef) w'):o.wpIn (Wd r) n P a w K Q :=
 ⟨fun _ _=>trivial,by rw [show (Wd r).round=r from rfl,Oper.semAt_eq _ _ _ hnd,hrun];exact hK⟩
theorem next_put {Mo m s sv k} (hR:Rel Mo m s (a::sv) w) (hd:∀ d,o.dst=some d→d<s.n) (hK:OpNext Mo m s o.dst a sv w k K) {v:V} {c:Value}
  (hv:RepV w (Tot Mo s.bx s.ow m) m v c) (h:k (s.put o.dst v)):K (a.put o.dst c) w:=by
 refine hK m _ _ _ h (hR.put hd hv) ?_ ?_
 ·cases o.dst <;> exact ⟨(Step.refl m s w).keeps,(Step.refl m s w).mt,(Step.refl m s w).lp,rfl,rfl,fun _ _=>⟨rfl,fun _ _=>rfl⟩⟩
 ·cases o.dst <;> rfl
theorem step_put {m s w m' s' w' d v} (h:Step m s w m' s' w'):Step m s w m' (s'.put d v) w':=by cases d <;> exact ⟨h.keeps,h.mt,h.lp,h.rd,h.svrd,h.lpm⟩
theorem rdOf_put {m:Mp} {s:Sa} {d v}:rdOf m (s.put d v)=rdOf m s:=by cases d <;> rfl
theorem next_put' {Mo m s sv k} (hK:OpNext Mo m s o.dst a sv w k K) {m' s' w'} (hR:Rel Mo m' s' (a::sv) w') (hd:∀ d,o.dst=some d→d<s'.n) (hs:Step m s w m' s' w') (hrd:rdOf m' s' = rdOf m s)
  {v:V} {c:Value} (hv:RepV w' (Tot Mo s'.bx s'.ow m') m' v c) (h:k (s'.put o.dst v)):K (a.put o.dst c) w' :=
 hK m' _ _ _ h (hR.put hd hv) (step_put hs) (by rw [rdOf_put];exact hrd)
theorem inR_wrap (k:IntKind) (x:Int):inR k (k.wrap x)=true:=by
 cases k <;> simp only [inR,IntKind.wrap,IntKind.bits,IntKind.signed,decide_eq_true_eq] <;> (try split) <;> simp_all <;> omega
theorem inR_fdiv {k:IntKind} {x:Int} (j:Nat) (h:inR k x=true):inR k (x.fdiv (2 ^ j))=true:=by
 have hp:(0:Int)<2 ^ j:=Int.pow_pos (by decide)
 have e:x.fdiv (2 ^ j)=x / 2 ^ j:=Int.fdiv_eq_ediv_of_nonneg x (Int.le_of_lt hp)
 rw [e]
 have key:∀ lo hi:Int,lo≤0→0≤hi→lo≤x∧x≤hi→lo≤x / 2 ^ j∧x / 2 ^ j≤hi:=by
  intro lo hi h0 h1 ⟨h2,h3⟩
  constructor
  ·rw [Int.le_ediv_iff_mul_le hp]
   have:lo * 2 ^ j≤lo * 1:=Int.mul_le_mul_of_nonpos_left h0 (by omega)
   omega
  ·by_cases hx:0≤x
   ·exact Int.le_trans (Int.ediv_le_self _ hx) h3
   ·have:x / 2 ^ j<0:=Int.ediv_neg_of_neg_of_pos (by omega) hp
    omega
 cases k <;> simp only [inR,decide_eq_true_eq] at h ⊢ <;> exact key _ _ (by decide) (by decide) h
theorem inR_tmod {k:IntKind} {x y:Int} (hy:y≠0) (h:inR k x=true):inR k (x.tmod y)=true:=by
 have h1:(x.tmod y).natAbs≤x.natAbs:=by
  rw [Int.natAbs_tmod];exact Nat.mod_le _ _
 have h2:0≤x→0≤x.tmod y:=fun h=>Int.tmod_nonneg y h
 have h3:x≤0→x.tmod y≤0:=fun h=>by
  have:=Int.tmod_nonneg y (a:=-x) (by omega)
  rw [Int.neg_tmod] at this;omega
 cases k <;> simp only [inR,decide_eq_true_eq] at h ⊢ <;> omega
theorem run_eqGuard {op:BinOp} {t:TypeId} {xo yo:Operand} {x y:Value} (h:(∃ k a,x = .int k a)∨(∃ b,x = .bool b)∨∃ s,x = .string s) :
  (eqGuard op t xo yo x y).run P w = .ok () w:=by
 unfold eqGuard
 rcases h with ⟨k,a,rfl⟩ | ⟨b,rfl⟩ | ⟨s,rfl⟩ <;> split <;> simp
theorem run_eqBool {d:Nat} {t:TypeId} {a b:Bool} (ht:P.underlying t=some .bool):(Op.equalIn (d+1) t (.bool a) (.bool b)).run P w = .ok (a==b) w:=by
 simp only [Op.equalIn,Sem.run_bind,run_underlying ht,Result.andThen_ok];rfl
theorem run_bin {op:BinOp} {t:TypeId} {xo yo:Operand} {x y:Value} {k:V→Prop} (h:binV P t op x y k) (hx:okLeaf x) (hy:okLeaf y) :
  ∃ v c,k v∧(do eqGuard op t xo yo x y;binOp op t x y:Sem Value).run P w = .ok c w∧∀ M m,RepV w M m v c:=by
 unfold binV at h
 split at h
 ·rename_i p a q b
  have hg:=run_eqGuard (P:=P) (w:=w) (op:=op) (t:=t) (xo:=xo) (yo:=yo) (x:=.int p a) (y:=.int q b) (.inl ⟨p,a,rfl⟩)
  simp only [Sem.run_bind,hg,Result.andThen_ok]
  cases op <;> simp only at h
  case shl=>exact ⟨_,_,h.2,by simp [binOp,Op.shift,Int.not_lt.2 h.1],fun M m=>.d (.v (inR_wrap _ _))⟩
  case shr=>exact ⟨_,_,h.2,by simp [binOp,Op.shift,Int.not_lt.2 h.1],fun M m=>.d (.v (inR_fdiv _ hx))⟩
  case quo=>obtain ⟨rfl,h0,h⟩:=h;exact ⟨_,_,h,by simp [binOp,Op.intDiv,h0],fun M m=>.d (.v (inR_wrap _ _))⟩
  case rem=>obtain ⟨rfl,h0,h⟩:=h;exact ⟨_,_,h,by simp [binOp,Op.intDiv,h0],fun M m=>.d (.v (inR_tmod h0 hx))⟩
  all_goals
   obtain ⟨rfl,h⟩:=h
   simp only [cmpInt,arith] at h
  case add=>exact ⟨_,_,h,by simp [binOp,Op.intArith],fun M m=>.d (.v (inR_wrap _ _))⟩
  case sub=>exact ⟨_,_,h,by simp [binOp,Op.intArith],fun M m=>.d (.v (inR_wrap _ _))⟩
  case mul=>exact ⟨_,_,h,by simp [binOp,Op.intArith],fun M m=>.d (.v (inR_wrap _ _))⟩
  case and=>exact ⟨_,_,h,by simp only [binOp];rw [if_neg (by simp)];rfl,fun M m=>.d (.v (inR_wrap _ _))⟩
  case or=>exact ⟨_,_,h,by simp only [binOp];rw [if_neg (by simp)];rfl,fun M m=>.d (.v (inR_wrap _ _))⟩
  case xor=>exact ⟨_,_,h,by simp only [binOp];rw [if_neg (by simp)];rfl,fun M m=>.d (.v (inR_wrap _ _))⟩
  case andNot=>exact ⟨_,_,h,by simp only [binOp];rw [if_neg (by simp)];rfl,fun M m=>.d (.v (inR_wrap _ _))⟩
  all_goals exact ⟨_,_,h,by simp [binOp,Op.intCmp],fun M m=>.d (.v trivial)⟩
 ·rename_i a b
  have hg:=run_eqGuard (P:=P) (w:=w) (op:=op) (t:=t) (xo:=xo) (yo:=yo) (x:=.bool a) (y:=.bool b) (.inr (.inl ⟨a,rfl⟩))
  simp only [Sem.run_bind,hg,Result.andThen_ok]
  obtain ⟨ht,h⟩:=h
  have he:(Op.equal t (.bool a) (.bool b)).run P w = .ok (a==b) w:=run_eqBool (d:=9999) ht
  cases op <;> simp only at h
  case eql=>exact ⟨_,_,h,by simp [binOp,he],fun M m=>.d (.v trivial)⟩
  case neq=>exact ⟨_,_,h,by simp [binOp,he],fun M m=>.d (.v trivial)⟩
 ·rename_i a b
  have hg:=run_eqGuard (P:=P) (w:=w) (op:=op) (t:=t) (xo:=xo) (yo:=yo) (x:=.string a) (y:=.string b) (.inr (.inr ⟨a,rfl⟩))
  simp only [Sem.run_bind,hg,Result.andThen_ok]
  cases op <;> simp only at h <;> exact ⟨_,_,h,by simp [binOp,Op.stringOp],fun M m=>.d (.v trivial)⟩
 ·exact h.elim
theorem kindB_run {t:TypeId} {b:Bool} (h:kindB P t=some b) {d:Nat} {x y:Value} :
  (∀ p q,b=true→x = .bool p→y = .bool q→(Op.equalIn (d+1) t x y).run P w = .ok (p==q) w)∧(∀ k p q,b=false→x = .int k p→y = .int k q→(Op.equalIn (d+1) t x y).run P w = .ok (p==q) w):=by
 unfold kindB at h
 split at h
 ·rename_i hu
  cases h
  exact ⟨fun p q _ e1 e2=>by rw [e1,e2];exact run_eqBool hu,fun k p q e=>by cases e⟩
 ·rename_i k hu
  cases h
  exact ⟨fun p q e=>(by cases e),fun k p q _ e1 e2=>by rw [e1,e2];exact run_equalIn_int w d t _ _ p q hu⟩
 ·cases h
theorem run_partB {t:TypeId} {b:Bool} (h:kindB P t=some b) {cs:Array Value} {i:Nat} {v:Value} (hv:cs[i]? = some v):(part t cs i).run P w = .ok v w:=by
 have ha:tagg P t=some false:=by
  unfold kindB at h
  unfold tagg
  split at h <;> simp_all
 simp only [part,Sem.run_bind,run_isAgg ha,Result.andThen_ok,hv]
 simp
theorem run_eqFs {d:Nat} {cs ds:Array Value}:∀ (fs:List Field) (i:Nat) (ks:List Bool) (xs ys:List D) (r:Bool),kindsFs P i fs=some ks →
  (∀ j v,xs[j]? = some (.v v)→cs[i+j]? = some v)→(∀ j v,ys[j]? = some (.v v)→ds[i+j]? = some v)→eqDs ks xs ys=some r→(Op.eqFields (d+1) cs ds fs).run P w = .ok r w:=by
 intro fs
 induction fs with
 | nil=>intro i ks xs ys r hk _ _ he;cases hk;simp only [eqDs,Option.some.injEq] at he;subst he;simp [Op.eqFields]
 | cons f fs ih =>
  intro i ks xs ys r hk hx hy he
  simp only [kindsFs] at hk
  split at hk
  ·rename_i hn
   split at hk
   ·rename_i b bs hb hbs
    cases hk
    unfold eqDs at he
    split at he
    ·rename_i h;cases h
    ·rename_i ks' a xs' b' ys' hc
     cases hc
     split at he
     ·rename_i r' hr'
      cases he
      have h1:=hx 0 (.bool a) rfl
      have h2:=hy 0 (.bool b') rfl
      simp only [Nat.add_zero] at h1 h2
      have h3:=ih (i+1) bs xs' ys' r' hbs (fun j v h=>by rw [Nat.add_assoc,Nat.add_comm 1];exact hx (j+1) v h) (fun j v h=>by rw [Nat.add_assoc,Nat.add_comm 1];exact hy (j+1) v h) hr'
      simp only [Op.eqFields,hn.1,hn.2,ne_eq,not_false_eq_true,if_true,Sem.run_bind,run_partB hb h1,run_partB hb h2,Result.andThen_ok,(kindB_run (w:=w) hb).1 a b' rfl rfl rfl]
      cases a==b' <;> simp [h3]
     ·cases he
    ·rename_i ks' p a xs' q b' ys' hc
     cases hc
     split at he
     ·rename_i hpq
      subst hpq
      split at he
      ·rename_i r' hr'
       cases he
       have h1:=hx 0 (.int p a) rfl
       have h2:=hy 0 (.int p b') rfl
       simp only [Nat.add_zero] at h1 h2
       have h3:=ih (i+1) bs xs' ys' r' hbs (fun j v h=>by rw [Nat.add_assoc,Nat.add_comm 1];exact hx (j+1) v h) (fun j v h=>by rw [Nat.add_assoc,Nat.add_comm 1];exact hy (j+1) v h) hr'
       simp only [Op.eqFields,hn.1,hn.2,ne_eq,not_false_eq_true,if_true,Sem.run_bind,run_partB hb h1,run_partB hb h2,Result.andThen_ok,(kindB_run (w:=w) hb).2 p a b' rfl rfl rfl]
       cases a==b' <;> simp [h3]
      ·cases he
     ·cases he
    ·cases he
   ·cases hk
  ·cases hk
theorem eqDs_append:∀ (ks bs:List Bool) (xs ys:List D) (r:Bool),eqDs (ks++bs) xs ys=some r→∃ r1 r2,eqDs ks xs ys=some r1∧eqDs bs (xs.drop ks.length) (ys.drop ks.length)=some r2∧r=(r1&&r2):=by
 intro ks
 induction ks with
 | nil=>intro bs xs ys r h;exact ⟨true,r,by simp [eqDs],by simpa using h,by simp⟩
 | cons k ks ih =>
  intro bs xs ys r h
  rw [List.cons_append] at h
  unfold eqDs at h
  split at h
  ·contradiction
  ·rename_i ks' a xs' b' ys' hc
   cases hc
   split at h
   ·rename_i r' hr'
    cases h
    obtain ⟨r1,r2,h1,h2,h3⟩:=ih bs xs' ys' r' hr'
    exact ⟨a==b' && r1,r2,by simp [eqDs,h1],by simpa using h2,by rw [h3,Bool.and_assoc]⟩
   ·cases h
  ·rename_i ks' p a xs' q b' ys' hc
   cases hc
   split at h
   ·rename_i hpq
    split at h
    ·rename_i r' hr'
     cases h
     obtain ⟨r1,r2,h1,h2,h3⟩:=ih bs xs' ys' r' hr'
     exact ⟨a==b' && r1,r2,by simp [eqDs,h1,hpq],by simpa using h2,by rw [h3,Bool.and_assoc]⟩
    ·cases h
   ·cases h
  ·cases h
theorem eqDs_take:∀ (ks:List Bool) (xs ys:List D),eqDs ks (xs.take ks.length) (ys.take ks.length)=eqDs ks xs ys:=by
 intro ks
 induction ks with
 | nil=>intro xs ys;simp [eqDs]
 | cons k ks ih =>
  intro xs ys
  cases xs with
  | nil=>simp [eqDs]
  | cons x xs=>cases ys with
   | nil=>simp only [List.length_cons,List.take_succ_cons,List.take_nil];cases k <;> rcases x with v | _ | _ <;> (try cases v) <;> first | rfl | simp [eqDs]
   | cons y ys =>
    simp only [List.length_cons,List.take_succ_cons]
    cases k <;> rcases x with v | _ | _ <;> (try cases v) <;> rcases y with u | _ | _ <;> (try cases u) <;> first | rfl | simp only [eqDs,ih]
theorem kindsFs_len:∀ (fs:List Field) (i:Nat) (ks:List Bool),kindsFs P i fs=some ks→ks.length=fs.length:=by
 intro fs
 induction fs with
 | nil=>intro i ks h;cases h;rfl
 | cons f fs ih =>
  intro i ks h
  simp only [kindsFs] at h
  split at h
  ·split at h
   ·rename_i b bs hb hbs;cases h;simp [ih _ _ hbs]
   ·cases h
  ·cases h
theorem run_eqF2 {d:Nat} {cs ds:Array Value}:∀ (fs:List Field) (i:Nat) (ks:List Bool) (xs ys:List D) (r:Bool),kindsF2 P i fs=some ks →
  (∀ j v,xs[j]? = some (.v v)→cs[i+j]? = some v)→(∀ j v,ys[j]? = some (.v v)→ds[i+j]? = some v)→eqDs ks xs ys=some r→(Op.eqFields (d+2) cs ds fs).run P w = .ok r w:=by
 intro fs
 induction fs with
 | nil=>intro i ks xs ys r hk _ _ he;cases hk;simp only [eqDs,Option.some.injEq] at he;subst he;simp [Op.eqFields]
 | cons f fs ih =>
  intro i ks xs ys r hk hx hy he
  simp only [kindsF2] at hk
  split at hk
  ·rename_i hn
   split at hk
   ·rename_i b hb
    split at hk
    ·rename_i bs hbs
     cases hk
     unfold eqDs at he
     split at he
     ·rename_i h;cases h
     ·rename_i ks' a xs' b' ys' hc
      cases hc
      split at he
      ·rename_i r' hr'
       cases he
       have h1:=hx 0 (.bool a) rfl
       have h2:=hy 0 (.bool b') rfl
       simp only [Nat.add_zero] at h1 h2
       have h3:=ih (i+1) bs xs' ys' r' hbs (fun j v h=>by rw [Nat.add_assoc,Nat.add_comm 1];exact hx (j+1) v h) (fun j v h=>by rw [Nat.add_assoc,Nat.add_comm 1];exact hy (j+1) v h) hr'
       simp only [Op.eqFields,hn.1,hn.2,ne_eq,not_false_eq_true,if_true,Sem.run_bind,run_partB hb h1,run_partB hb h2,Result.andThen_ok,(kindB_run (w:=w) (d:=d+1) hb).1 a b' rfl rfl rfl]
       cases a==b' <;> simp [h3]
      ·cases he
     ·rename_i ks' p a xs' q b' ys' hc
      cases hc
      split at he
      ·rename_i hpq
       subst hpq
       split at he
       ·rename_i r' hr'
        cases he
        have h1:=hx 0 (.int p a) rfl
        have h2:=hy 0 (.int p b') rfl
        simp only [Nat.add_zero] at h1 h2
        have h3:=ih (i+1) bs xs' ys' r' hbs (fun j v h=>by rw [Nat.add_assoc,Nat.add_comm 1];exact hx (j+1) v h) (fun j v h=>by rw [Nat.add_assoc,Nat.add_comm 1];exact hy (j+1) v h) hr'
        simp only [Op.eqFields,hn.1,hn.2,ne_eq,not_false_eq_true,if_true,Sem.run_bind,run_partB hb h1,run_partB hb h2,Result.andThen_ok,(kindB_run (w:=w) (d:=d+1) hb).2 p a b' rfl rfl rfl]
        cases a==b' <;> simp [h3]
       ·cases he
      ·cases he
     ·cases he
    ·cases hk
   ·split at hk
    ·rename_i gs hu
     split at hk
     ·cases hk
     ·rename_i hs
      have hs1:P.stoodInHeld f.type=false:=by
       cases h:P.stoodInHeld f.type
       ·rfl
       ·exact absurd (.inl h) hs
      have hs2:tsz P f.type=gs.size:=Classical.byContradiction fun h=>hs (.inr h)
      split at hk
      ·rename_i ks1 bs hk1 hbs
       cases hk
       have hlen:ks1.length=gs.size:=by rw [kindsFs_len _ _ _ hk1];simp
       obtain ⟨r1,r2,h1,h2,rfl⟩:=eqDs_append ks1 bs xs ys r he
       have hag:tagg P f.type=some true:=by simp [tagg,hu]
       have hpart:∀ zs:Array Value,(part f.type zs i).run P w = .ok (.agg (zs.extract i (i+gs.size))) w:=by
        intro zs
        simp only [part,Sem.run_bind,run_isAgg hag,Result.andThen_ok,if_true,run_sizeOf' hu,hs2,Sem.run_pure]
       have hext:∀ (zs:Array Value) (us:List D),(∀ j v,us[j]? = some (.v v)→zs[i+j]? = some v)→∀ j v,(us.take ks1.length)[j]? = some (.v v)→(zs.extract i (i+gs.size))[0+j]? = some v:=by
        intro zs us h j v hv
        have hj:j<gs.size:=by
         rcases Nat.lt_or_ge j gs.size with h' | h'
         ·exact h'
         ·rw [List.getElem?_eq_none (by simp;omega)] at hv;cases hv
        rw [List.getElem?_take_of_lt (by omega)] at hv
        have h2:=h j v hv
        rw [Nat.zero_add,Array.getElem?_extract,if_pos (by obtain ⟨hh,_⟩:=Array.getElem?_eq_some_iff.1 h2;omega)]
        exact h2
       have hf:P.fieldsOf f.type=gs:=by simp [Program.fieldsOf,hu]
       have hq:(Op.equalIn (d+2) f.type (.agg (cs.extract i (i+gs.size))) (.agg (ds.extract i (i+gs.size)))).run P w = .ok r1 w:=by
        rw [run_equalIn_struct w (d+1) f.type _ _ (by rw [hf];exact hu) hs1,hf]
        exact run_eqFs gs.toList 0 ks1 (xs.take ks1.length) (ys.take ks1.length) r1 hk1 (hext cs xs hx) (hext ds ys hy) (by rw [eqDs_take];exact h1)
       have h3:=ih (i+gs.size) bs (xs.drop ks1.length) (ys.drop ks1.length) r2 hbs
        (fun j v h=>by rw [List.getElem?_drop] at h;have:=hx _ v h;rw [hlen] at this;rw [Nat.add_assoc];exact this)
        (fun j v h=>by rw [List.getElem?_drop] at h;have:=hy _ v h;rw [hlen] at this;rw [Nat.add_assoc];exact this) h2
       simp only [Op.eqFields,hn.1,hn.2,ne_eq,not_false_eq_true,if_true,Sem.run_bind,hpart,Result.andThen_ok,hq]
       cases r1 <;> simp [h3]
      ·cases hk
    ·cases hk
  ·cases hk
theorem run_eqIs {d:Nat} {e:TypeId} {b:Bool} (hb:kindB P e=some b) {cs ds:Array Value}:∀ (n i:Nat) (xs ys:List D) (r:Bool),
  (∀ j v,xs[j]? = some (.v v)→cs[i+j]? = some v)→(∀ j v,ys[j]? = some (.v v)→ds[i+j]? = some v)→eqDs (List.replicate n b) xs ys=some r→(Op.eqItems (d+1) e 1 cs ds (List.range' i n)).run P w = .ok r w:=by
 intro n
 induction n with
 | zero=>intro i xs ys r _ _ he;simp only [List.replicate_zero,eqDs,Option.some.injEq] at he;subst he;simp [Op.eqItems]
 | succ n ih =>
  intro i xs ys r hx hy he
  rw [List.replicate_succ] at he
  unfold eqDs at he
  split at he
  ·rename_i h;cases h
  ·rename_i ks' a xs' b' ys' hc
   cases hc
   split at he
   ·rename_i r' hr'
    cases he
    have h1:=hx 0 (.bool a) rfl
    have h2:=hy 0 (.bool b') rfl
    simp only [Nat.add_zero] at h1 h2
    have h3:=ih (i+1) xs' ys' r' (fun j v h=>by rw [Nat.add_assoc,Nat.add_comm 1];exact hx (j+1) v h) (fun j v h=>by rw [Nat.add_assoc,Nat.add_comm 1];exact hy (j+1) v h) hr'
    simp only [List.range'_succ,Op.eqItems,Nat.mul_one,Sem.run_bind,run_partB hb h1,run_partB hb h2,Result.andThen_ok,(kindB_run (w:=w) hb).1 a b' rfl rfl rfl]
    cases a==b' <;> simp [h3]
   ·cases he
  ·rename_i ks' p a xs' q b' ys' hc
   cases hc
   split at he
   ·rename_i hpq
    subst hpq
    split at he
    ·rename_i r' hr'
     cases he
     have h1:=hx 0 (.int p a) rfl
     have h2:=hy 0 (.int p b') rfl
     simp only [Nat.add_zero] at h1 h2
     have h3:=ih (i+1) xs' ys' r' (fun j v h=>by rw [Nat.add_assoc,Nat.add_comm 1];exact hx (j+1) v h) (fun j v h=>by rw [Nat.add_assoc,Nat.add_comm 1];exact hy (j+1) v h) hr'
     simp only [List.range'_succ,Op.eqItems,Nat.mul_one,Sem.run_bind,run_partB hb h1,run_partB hb h2,Result.andThen_ok,(kindB_run (w:=w) hb).2 p a b' rfl rfl rfl]
     cases a==b' <;> simp [h3]
    ·cases he
   ·cases he
  ·cases he
theorem run_flatEq {t:TypeId} {ks:List Bool} {xs ys:List D} {r:Bool} (hk:flatKinds P t=some ks) (he:eqDs ks xs ys=some r) {cs ds:Array Value} (hx:∀ (j:Nat) v,xs[j]? = some (.v v)→cs[j]? = some v) (hy:∀ (j:Nat) v,ys[j]? = some (.v v)→ds[j]? = some v) {op:BinOp} {xo yo:Operand} :
  (op = .eql→(do eqGuard op t xo yo (.agg cs) (.agg ds);binOp op t (.agg cs) (.agg ds):Sem Value).run P w = .ok (.bool r) w)∧(op = .neq→(do eqGuard op t xo yo (.agg cs) (.agg ds);binOp op t (.agg cs) (.agg ds):Sem Value).run P w = .ok (.bool !r) w):=by
 unfold flatKinds at hk
 split at hk
 ·cases hk
 ·rename_i hg
  have hg' : P.eqGuardType P.depth t=false:=by simpa using hg
  have hrun:(Op.equalIn 10000 t (.agg cs) (.agg ds)).run P w = .ok r w:=by
   split at hk
   ·rename_i fs hu
    split at hk
    ·cases hk
    ·rename_i hs
     have hf:P.fieldsOf t=fs:=by simp [Program.fieldsOf,hu]
     rw [run_equalIn_struct w 9999 t cs ds (by rw [hf];exact hu) (by simpa using hs),hf]
     exact run_eqF2 fs.toList 0 ks xs ys r hk (fun j v h=>by rw [Nat.zero_add];exact hx j v h) (fun j v h=>by rw [Nat.zero_add];exact hy j v h) he
   ·rename_i nn e hu
    split at hk
    ·rename_i hsz
     simp only [Option.map_eq_some_iff] at hk
     obtain ⟨b,hb,rfl⟩:=hk
     have hi:∃ i,P.info? e=some i:=by
      unfold tsz at hsz
      cases hi:P.info? e with
      | none=>simp [hi] at hsz
      | some i=>exact ⟨i,rfl⟩
     obtain ⟨i,hi⟩:=hi
     have hc:P.cellsOf e=1:=by rw [← hsz];simp [Program.cellsOf,tsz,hi]
     rw [run_equalIn_array w 9999 cs ds hu hi,hc,List.range_eq_range']
     exact run_eqIs hb nn 0 xs ys r (fun j v h=>by rw [Nat.zero_add];exact hx j v h) (fun j v h=>by rw [Nat.zero_add];exact hy j v h) he
    ·cases hk
   ·cases hk
  refine ⟨fun e=>?_,fun e=>?_⟩ <;> subst e <;> simp only [Sem.run_bind,run_eqGuard_agg w _ t xo yo cs ds hg',Result.andThen_ok]
  ·rw [run_eql_struct,hrun];rfl
  ·rw [run_neq_struct,hrun];rfl
theorem run_eqNil {t e:TypeId} (hu:P.underlying t=some (.slice e)) {a:Option Addr} {l c:Nat} {op:BinOp} {xo yo:Operand} :
  (op = .eql→(do eqGuard op t xo yo (.slice a l c) (.slice none 0 0);binOp op t (.slice a l c) (.slice none 0 0):Sem Value).run P w = .ok (.bool a.isNone) w) ∧
  (op = .neq→(do eqGuard op t xo yo (.slice a l c) (.slice none 0 0);binOp op t (.slice a l c) (.slice none 0 0):Sem Value).run P w = .ok (.bool !a.isNone) w):=by
 have hg:∀ op,(eqGuard op t xo yo (.slice a l c) (.slice none 0 0)).run P w = .ok () w:=fun op=>by cases op <;> simp [eqGuard]
 refine ⟨fun e'=>?_,fun e'=>?_⟩ <;> subst e' <;> simp only [Sem.run_bind,hg,Result.andThen_ok]
 ·simp only [binOp];simp [run_equal_slice_nil w t e a l c hu]
 ·exact run_neq_slice_nil w t e a l c hu
end Go.Ab
